import Derived.Test.Qxb6500424aGreatSig
set_option maxRecDepth 100000
set_option linter.unusedVariables false
open Go.Vc
namespace Go.Proofs.Qxb6500424aGreat
def hostlaw_World_Observe.B2 (s s2 : Nat) (t59 : Bool) (w : World)   (R : Bool → World → Prop) : Prop :=
  Bm t59 (
    R false w) (
    LdP ⟨s, 8, none⟩ w fun x61 =>
    LdP ⟨s2, 8, none⟩ w fun x63 =>
    hostlaw_SameConn.Call x61 x63 w fun r64 w1 =>
    R r64 w1)
theorem hostlaw_World_Observe.B2_eq (s s2 : Nat) (t59 : Bool) (w : World)   (R : Bool → World → Prop)  :
    (
  Bm t59 (
    R false w) (
    LdP ⟨s, 8, none⟩ w fun x61 =>
    LdP ⟨s2, 8, none⟩ w fun x63 =>
    hostlaw_SameConn.Call x61 x63 w fun r64 w1 =>
    R r64 w1)) = kstep Tryz.prog 151 Tryz.f50.results.toList (Tryz.f50.body.getD .skip) (hostlaw_World_Observe.RV R) (kvc Tryz.prog 151 Tryz.f50.results.toList (Tryz.f50.body.getD .skip) (hostlaw_World_Observe.RV R) [] 2000) [(0, [1, 1, 0, 1, 0, 1, 0, 1, 1, 0, 1, 0, 1]), (0, [1, 1, 0, 1, 0, 1, 0, 1, 1, 0, 1, 1]), (1, [0]), (0, [1, 1, 1])] [(8, .pointer (some ⟨s, 0, none⟩)), (10, .pointer (some ⟨s2, 0, none⟩)), (59, .bool t59)] w := by kernel_rfl
theorem hostlaw_World_Observe.B2_sound {R : Bool → World → Prop}  (s s2 : Nat) (t59 : Bool) (w : World) (h : hostlaw_World_Observe.B2 s s2 t59 w   R) :
    KW Tryz.prog 50 151 (hostlaw_World_Observe.RV R) ([(0, [1, 1, 0, 1, 0, 1, 0, 1, 1, 0, 1, 0, 1]), (0, [1, 1, 0, 1, 0, 1, 0, 1, 1, 0, 1, 1]), (1, [0]), (0, [1, 1, 1])].map (toItem (Tryz.f50.body.getD .skip))) [(8, .pointer (some ⟨s, 0, none⟩)), (10, .pointer (some ⟨s2, 0, none⟩)), (59, .bool t59)] w := by
  exact block_spec Tryz.func50 Tryz.mixed stops_nil (Eq.mp (hostlaw_World_Observe.B2_eq s s2 t59 w   R ) h)
def hostlaw_World_Observe.B1 (s : Nat) (e : Int) (s2 : Nat) (e2 : Int) (w : World)   (R : Bool → World → Prop) : Prop :=
  Bm (e != e2) (
    hostlaw_World_Observe.B2 s s2 true w  R) (
    LdI .i64 ⟨s, 0, none⟩ w fun x54_0 =>
    LdI .i64 ⟨s, 1, none⟩ w fun x54_1 =>
    LdI .i64 ⟨s, 2, none⟩ w fun x54_2 =>
    LdI .i64 ⟨s, 3, none⟩ w fun x54_3 =>
    LdI .i64 ⟨s, 4, none⟩ w fun x54_4 =>
    LdI .i64 ⟨s, 5, none⟩ w fun x54_5 =>
    LdI .i64 ⟨s, 6, none⟩ w fun x54_6 =>
    LdB ⟨s, 7, none⟩ w fun x54_7 =>
    LdI .i64 ⟨s2, 0, none⟩ w fun x56_0 =>
    LdI .i64 ⟨s2, 1, none⟩ w fun x56_1 =>
    LdI .i64 ⟨s2, 2, none⟩ w fun x56_2 =>
    LdI .i64 ⟨s2, 3, none⟩ w fun x56_3 =>
    LdI .i64 ⟨s2, 4, none⟩ w fun x56_4 =>
    LdI .i64 ⟨s2, 5, none⟩ w fun x56_5 =>
    LdI .i64 ⟨s2, 6, none⟩ w fun x56_6 =>
    LdB ⟨s2, 7, none⟩ w fun x56_7 =>
    hostlaw_SameEntry.Call x54_0 x54_1 x54_2 x54_3 x54_4 x54_5 x54_6 x54_7 x56_0 x56_1 x56_2 x56_3 x56_4 x56_5 x56_6 x56_7 w fun r57 w1 =>
    hostlaw_World_Observe.B2 s s2 (!r57) w1  R)
theorem hostlaw_World_Observe.B1_eq (s : Nat) (e : Int) (s2 : Nat) (e2 : Int) (w : World)   (R : Bool → World → Prop) (sB2 : Nat → Nat → Bool → World → Prop) :
    (
  Bm (e != e2) (
    sB2 s s2 true w) (
    LdI .i64 ⟨s, 0, none⟩ w fun x54_0 =>
    LdI .i64 ⟨s, 1, none⟩ w fun x54_1 =>
    LdI .i64 ⟨s, 2, none⟩ w fun x54_2 =>
    LdI .i64 ⟨s, 3, none⟩ w fun x54_3 =>
    LdI .i64 ⟨s, 4, none⟩ w fun x54_4 =>
    LdI .i64 ⟨s, 5, none⟩ w fun x54_5 =>
    LdI .i64 ⟨s, 6, none⟩ w fun x54_6 =>
    LdB ⟨s, 7, none⟩ w fun x54_7 =>
    LdI .i64 ⟨s2, 0, none⟩ w fun x56_0 =>
    LdI .i64 ⟨s2, 1, none⟩ w fun x56_1 =>
    LdI .i64 ⟨s2, 2, none⟩ w fun x56_2 =>
    LdI .i64 ⟨s2, 3, none⟩ w fun x56_3 =>
    LdI .i64 ⟨s2, 4, none⟩ w fun x56_4 =>
    LdI .i64 ⟨s2, 5, none⟩ w fun x56_5 =>
    LdI .i64 ⟨s2, 6, none⟩ w fun x56_6 =>
    LdB ⟨s2, 7, none⟩ w fun x56_7 =>
    hostlaw_SameEntry.Call x54_0 x54_1 x54_2 x54_3 x54_4 x54_5 x54_6 x54_7 x56_0 x56_1 x56_2 x56_3 x56_4 x56_5 x56_6 x56_7 w fun r57 w1 =>
    sB2 s s2 (!r57) w1)) = kstep Tryz.prog 151 Tryz.f50.results.toList (Tryz.f50.body.getD .skip) (hostlaw_World_Observe.RV R) (kvc Tryz.prog 151 Tryz.f50.results.toList (Tryz.f50.body.getD .skip) (hostlaw_World_Observe.RV R) [([(0, [1, 1, 0, 1, 0, 1, 0, 1, 1, 0, 1, 0, 1]), (0, [1, 1, 0, 1, 0, 1, 0, 1, 1, 0, 1, 1]), (1, [0]), (0, [1, 1, 1])], fun σ w => dK (slotOf σ 8) fun s_ => dK (slotOf σ 10) fun s2_ => dB (slotOf σ 59) fun t59_ => sB2 s_ s2_ t59_ w)] 2000) [(0, [1, 1, 0, 1, 0, 1, 0, 1, 1, 0, 1]), (1, [0]), (0, [1, 1, 1])] [(8, .pointer (some ⟨s, 0, none⟩)), (9, .int .i64 e), (10, .pointer (some ⟨s2, 0, none⟩)), (11, .int .i64 e2)] w := by kernel_rfl
theorem hostlaw_World_Observe.B1_sound {R : Bool → World → Prop}  (s : Nat) (e : Int) (s2 : Nat) (e2 : Int) (w : World) (h : hostlaw_World_Observe.B1 s e s2 e2 w   R) :
    KW Tryz.prog 50 151 (hostlaw_World_Observe.RV R) ([(0, [1, 1, 0, 1, 0, 1, 0, 1, 1, 0, 1]), (1, [0]), (0, [1, 1, 1])].map (toItem (Tryz.f50.body.getD .skip))) [(8, .pointer (some ⟨s, 0, none⟩)), (9, .int .i64 e), (10, .pointer (some ⟨s2, 0, none⟩)), (11, .int .i64 e2)] w := by
  exact block_spec Tryz.func50 Tryz.mixed (stops_cons (fun σ w h => by
      obtain ⟨s_, e0, h⟩ := dK_elim h
      obtain ⟨s2_, e1, h⟩ := dK_elim h
      obtain ⟨t59_, e2, h⟩ := dB_elim h
      exact (hostlaw_World_Observe.B2_sound  s_ s2_ t59_ w h).weaken (Sub.cons (Sub.cons (Sub.cons (Sub.nil _) e2) e1) e0)) stops_nil) (Eq.mp (hostlaw_World_Observe.B1_eq s e s2 e2 w   R (fun s_ s2_ t59_ w => hostlaw_World_Observe.B2 s_ s2_ t59_ w  R)) h)
def hostlaw_World_Observe.B0 (w0 : Option Addr) (c o_0 o_1 o_2 o_3 : Int) (o_4 o_5 : ByteArray) (w : World)   (R : Bool → World → Prop) : Prop :=
  New (.cells #[.int .i64 o_0, .int .i64 o_1, .int .i64 o_2, .int .i64 o_3, .string o_4, .string o_5] 32) w fun o_ w1 =>
  Pn w0 fun a =>
  (0 ≤ c ∧ c < ((3 : Nat) : Int)) ∧
  LdP (Addr.add a (c.toNat * 1)) w1 fun x21 =>
  LdI .i64 ⟨o_, 0, none⟩ w1 fun x23 =>
  Bm (x23 == (8 : Int)) (
    LdI .i64 ⟨o_, 1, none⟩ w1 fun x29 =>
    host_Host_Info.Call x21 x29 w1 fun r30_0_0 r30_0_1 r30_0_2 r30_0_3 r30_0_4 r30_0_5 r30_0_6 r30_0_7 r30_0_8 r30_1 w2 =>
    New (.cells #[.int .i64 (0 : Int), .int .i64 (0 : Int), .int .i64 (0 : Int), .int .i64 (0 : Int), .int .i64 (0 : Int), .int .i64 (0 : Int), .int .i64 (0 : Int), .bool false, .pointer none] 69) w2 fun s_ w3 =>
    Sts [.int .i64 r30_0_0, .int .i64 r30_0_1, .int .i64 r30_0_2, .int .i64 r30_0_3, .int .i64 r30_0_4, .int .i64 r30_0_5, .int .i64 r30_0_6, .bool r30_0_7, .pointer r30_0_8] ⟨s_, 0, none⟩ 0 w3 fun w4 =>
    Pn w0 fun a_1 =>
    LdB (a_1.add 27) w4 fun x36 =>
    Bm x36 (
      Pn w0 fun a_2 =>
      (0 ≤ c ∧ c < ((3 : Nat) : Int)) ∧
      LdP (Addr.add (a_2.add 24) (c.toNat * 1)) w4.drew fun x43 =>
      LdI .i64 ⟨o_, 1, none⟩ w4.drew fun x45 =>
      ((
        host_Host_Info.Call x43 x45 w4.drew fun r46_0_0 r46_0_1 r46_0_2 r46_0_3 r46_0_4 r46_0_5 r46_0_6 r46_0_7 r46_0_8 r46_1 w5 =>
        New (.cells #[.int .i64 (0 : Int), .int .i64 (0 : Int), .int .i64 (0 : Int), .int .i64 (0 : Int), .int .i64 (0 : Int), .int .i64 (0 : Int), .int .i64 (0 : Int), .bool false, .pointer none] 69) w5 fun s2_ w6 =>
        Sts [.int .i64 r46_0_0, .int .i64 r46_0_1, .int .i64 r46_0_2, .int .i64 r46_0_3, .int .i64 r46_0_4, .int .i64 r46_0_5, .int .i64 r46_0_6, .bool r46_0_7, .pointer r46_0_8] ⟨s2_, 0, none⟩ 0 w6 fun w7 =>
        hostlaw_World_Observe.B1 s_ r30_1 s2_ r46_1 w7  R) ∧ (
        New (.cells #[.int .i64 (0 : Int), .int .i64 (0 : Int), .int .i64 (0 : Int), .int .i64 (0 : Int), .int .i64 (0 : Int), .int .i64 (0 : Int), .int .i64 (0 : Int), .bool false, .pointer none] 69) w4.drew fun s2__1 w8 =>
        w8.cell? ⟨o_, 1, none⟩ = some (.int .i64 x45) ∧
        w8.cell? (Addr.add (a_2.add 24) (c.toNat * 1)) = some (.pointer x43) ∧
        host_Host_Info.Call x43 x45 w8 fun r46_0_0_1 r46_0_1_1 r46_0_2_1 r46_0_3_1 r46_0_4_1 r46_0_5_1 r46_0_6_1 r46_0_7_1 r46_0_8_1 r46_1_1 w9 =>
        Sts [.int .i64 r46_0_0_1, .int .i64 r46_0_1_1, .int .i64 r46_0_2_1, .int .i64 r46_0_3_1, .int .i64 r46_0_4_1, .int .i64 r46_0_5_1, .int .i64 r46_0_6_1, .bool r46_0_7_1, .pointer r46_0_8_1] ⟨s2__1, 0, none⟩ 0 w9 fun w10 =>
        hostlaw_World_Observe.B1 s_ r30_1 s2__1 r46_1_1 w10  R))) (
      R true w4)) (
    Bm (x23 == (9 : Int)) (
      host_Host_Socks.Call x21 w1 fun r68_b r68_l r68_c w11 =>
      Pn w0 fun a_3 =>
      LdB (a_3.add 27) w11 fun x72 =>
      Bm x72 (
        Pn w0 fun a_4 =>
        (0 ≤ c ∧ c < ((3 : Nat) : Int)) ∧
        LdP (Addr.add (a_4.add 24) (c.toNat * 1)) w11 fun x78 =>
        host_Host_Socks.Call x78 w11 fun r79_b r79_l r79_c w12 =>
        hostlaw_SameInts.Call r68_b r68_l r68_c r79_b r79_l r79_c w12 fun r82 w13 =>
        hostlaw_World_OwnInts.Call w0 r79_b r79_l r79_c w13 fun w14 =>
        hostlaw_World_OwnInts.Call w0 r68_b r68_l r68_c w14 fun w15 =>
        R r82 w15) (
        hostlaw_World_OwnInts.Call w0 r68_b r68_l r68_c w11 fun w16 =>
        R true w16)) (
      Bm (x23 == (16 : Int)) (
        Pn w0 fun a_5 =>
        LdI .i64 (a_5.add 43) w1.drew fun x100 =>
        host_Host_Clock.Call x21 w1.drew fun r96 w17 =>
        w17.cell? (a_5.add 43) = some (.int .i64 x100) ∧
        Bm (r96 != x100) (
          R false w17) (
          Pn w0 fun a_6 =>
          LdB (a_6.add 27) w17 fun x105 =>
          Bm x105 (
            Pn w0 fun a_7 =>
            (0 ≤ c ∧ c < ((3 : Nat) : Int)) ∧
            LdP (Addr.add (a_7.add 24) (c.toNat * 1)) w17.drew fun x111 =>
            Pn w0 fun a_8 =>
            LdI .i64 (a_8.add 43) w17.drew fun x116 =>
            host_Host_Clock.Call x111 w17.drew fun r112 w18 =>
            w18.cell? (a_8.add 43) = some (.int .i64 x116) ∧
            R (r112 == x116) w18) (
            R true w17))) (
        Bm (x23 == (17 : Int)) (
          host_Host_Lost.Call x21 w1 fun r121 w19 =>
          Pn w0 fun a_9 =>
          LdB (a_9.add 27) w19 fun x125 =>
          Bm x125 (
            Pn w0 fun a_10 =>
            (0 ≤ c ∧ c < ((3 : Nat) : Int)) ∧
            LdP (Addr.add (a_10.add 24) (c.toNat * 1)) w19 fun x131 =>
            host_Host_Lost.Call x131 w19 fun r132 w20 =>
            R (r132 == r121) w20) (
            R true w19)) (
          Bm (x23 == (18 : Int)) (
            host_Host_Check.Call x21 w1 fun r138 w21 =>
            Bm (!r138) (
              R false w21) (
              Pn w0 fun a_11 =>
              LdB (a_11.add 27) w21 fun x143 =>
              Bm x143 (
                Pn w0 fun a_12 =>
                (0 ≤ c ∧ c < ((3 : Nat) : Int)) ∧
                LdP (Addr.add (a_12.add 24) (c.toNat * 1)) w21 fun x149 =>
                host_Host_Check.Call x149 w21 fun r150 w22 =>
                R r150 w22) (
                R true w21))) (
            R true w1)))))
theorem hostlaw_World_Observe.B0_eq (w0 : Option Addr) (c o_0 o_1 o_2 o_3 : Int) (o_4 o_5 : ByteArray) (w : World)   (R : Bool → World → Prop) (sB1 : Nat → Int → Nat → Int → World → Prop) :
    (
  New (.cells #[.int .i64 o_0, .int .i64 o_1, .int .i64 o_2, .int .i64 o_3, .string o_4, .string o_5] 32) w fun o_ w1 =>
  Pn w0 fun a =>
  (0 ≤ c ∧ c < ((3 : Nat) : Int)) ∧
  LdP (Addr.add a (c.toNat * 1)) w1 fun x21 =>
  LdI .i64 ⟨o_, 0, none⟩ w1 fun x23 =>
  Bm (x23 == (8 : Int)) (
    LdI .i64 ⟨o_, 1, none⟩ w1 fun x29 =>
    host_Host_Info.Call x21 x29 w1 fun r30_0_0 r30_0_1 r30_0_2 r30_0_3 r30_0_4 r30_0_5 r30_0_6 r30_0_7 r30_0_8 r30_1 w2 =>
    New (.cells #[.int .i64 (0 : Int), .int .i64 (0 : Int), .int .i64 (0 : Int), .int .i64 (0 : Int), .int .i64 (0 : Int), .int .i64 (0 : Int), .int .i64 (0 : Int), .bool false, .pointer none] 69) w2 fun s_ w3 =>
    Sts [.int .i64 r30_0_0, .int .i64 r30_0_1, .int .i64 r30_0_2, .int .i64 r30_0_3, .int .i64 r30_0_4, .int .i64 r30_0_5, .int .i64 r30_0_6, .bool r30_0_7, .pointer r30_0_8] ⟨s_, 0, none⟩ 0 w3 fun w4 =>
    Pn w0 fun a_1 =>
    LdB (a_1.add 27) w4 fun x36 =>
    Bm x36 (
      Pn w0 fun a_2 =>
      (0 ≤ c ∧ c < ((3 : Nat) : Int)) ∧
      LdP (Addr.add (a_2.add 24) (c.toNat * 1)) w4.drew fun x43 =>
      LdI .i64 ⟨o_, 1, none⟩ w4.drew fun x45 =>
      ((
        host_Host_Info.Call x43 x45 w4.drew fun r46_0_0 r46_0_1 r46_0_2 r46_0_3 r46_0_4 r46_0_5 r46_0_6 r46_0_7 r46_0_8 r46_1 w5 =>
        New (.cells #[.int .i64 (0 : Int), .int .i64 (0 : Int), .int .i64 (0 : Int), .int .i64 (0 : Int), .int .i64 (0 : Int), .int .i64 (0 : Int), .int .i64 (0 : Int), .bool false, .pointer none] 69) w5 fun s2_ w6 =>
        Sts [.int .i64 r46_0_0, .int .i64 r46_0_1, .int .i64 r46_0_2, .int .i64 r46_0_3, .int .i64 r46_0_4, .int .i64 r46_0_5, .int .i64 r46_0_6, .bool r46_0_7, .pointer r46_0_8] ⟨s2_, 0, none⟩ 0 w6 fun w7 =>
        sB1 s_ r30_1 s2_ r46_1 w7) ∧ (
        New (.cells #[.int .i64 (0 : Int), .int .i64 (0 : Int), .int .i64 (0 : Int), .int .i64 (0 : Int), .int .i64 (0 : Int), .int .i64 (0 : Int), .int .i64 (0 : Int), .bool false, .pointer none] 69) w4.drew fun s2__1 w8 =>
        w8.cell? ⟨o_, 1, none⟩ = some (.int .i64 x45) ∧
        w8.cell? (Addr.add (a_2.add 24) (c.toNat * 1)) = some (.pointer x43) ∧
        host_Host_Info.Call x43 x45 w8 fun r46_0_0_1 r46_0_1_1 r46_0_2_1 r46_0_3_1 r46_0_4_1 r46_0_5_1 r46_0_6_1 r46_0_7_1 r46_0_8_1 r46_1_1 w9 =>
        Sts [.int .i64 r46_0_0_1, .int .i64 r46_0_1_1, .int .i64 r46_0_2_1, .int .i64 r46_0_3_1, .int .i64 r46_0_4_1, .int .i64 r46_0_5_1, .int .i64 r46_0_6_1, .bool r46_0_7_1, .pointer r46_0_8_1] ⟨s2__1, 0, none⟩ 0 w9 fun w10 =>
        sB1 s_ r30_1 s2__1 r46_1_1 w10))) (
      R true w4)) (
    Bm (x23 == (9 : Int)) (
      host_Host_Socks.Call x21 w1 fun r68_b r68_l r68_c w11 =>
      Pn w0 fun a_3 =>
      LdB (a_3.add 27) w11 fun x72 =>
      Bm x72 (
        Pn w0 fun a_4 =>
        (0 ≤ c ∧ c < ((3 : Nat) : Int)) ∧
        LdP (Addr.add (a_4.add 24) (c.toNat * 1)) w11 fun x78 =>
        host_Host_Socks.Call x78 w11 fun r79_b r79_l r79_c w12 =>
        hostlaw_SameInts.Call r68_b r68_l r68_c r79_b r79_l r79_c w12 fun r82 w13 =>
        hostlaw_World_OwnInts.Call w0 r79_b r79_l r79_c w13 fun w14 =>
        hostlaw_World_OwnInts.Call w0 r68_b r68_l r68_c w14 fun w15 =>
        R r82 w15) (
        hostlaw_World_OwnInts.Call w0 r68_b r68_l r68_c w11 fun w16 =>
        R true w16)) (
      Bm (x23 == (16 : Int)) (
        Pn w0 fun a_5 =>
        LdI .i64 (a_5.add 43) w1.drew fun x100 =>
        host_Host_Clock.Call x21 w1.drew fun r96 w17 =>
        w17.cell? (a_5.add 43) = some (.int .i64 x100) ∧
        Bm (r96 != x100) (
          R false w17) (
          Pn w0 fun a_6 =>
          LdB (a_6.add 27) w17 fun x105 =>
          Bm x105 (
            Pn w0 fun a_7 =>
            (0 ≤ c ∧ c < ((3 : Nat) : Int)) ∧
            LdP (Addr.add (a_7.add 24) (c.toNat * 1)) w17.drew fun x111 =>
            Pn w0 fun a_8 =>
            LdI .i64 (a_8.add 43) w17.drew fun x116 =>
            host_Host_Clock.Call x111 w17.drew fun r112 w18 =>
            w18.cell? (a_8.add 43) = some (.int .i64 x116) ∧
            R (r112 == x116) w18) (
            R true w17))) (
        Bm (x23 == (17 : Int)) (
          host_Host_Lost.Call x21 w1 fun r121 w19 =>
          Pn w0 fun a_9 =>
          LdB (a_9.add 27) w19 fun x125 =>
          Bm x125 (
            Pn w0 fun a_10 =>
            (0 ≤ c ∧ c < ((3 : Nat) : Int)) ∧
            LdP (Addr.add (a_10.add 24) (c.toNat * 1)) w19 fun x131 =>
            host_Host_Lost.Call x131 w19 fun r132 w20 =>
            R (r132 == r121) w20) (
            R true w19)) (
          Bm (x23 == (18 : Int)) (
            host_Host_Check.Call x21 w1 fun r138 w21 =>
            Bm (!r138) (
              R false w21) (
              Pn w0 fun a_11 =>
              LdB (a_11.add 27) w21 fun x143 =>
              Bm x143 (
                Pn w0 fun a_12 =>
                (0 ≤ c ∧ c < ((3 : Nat) : Int)) ∧
                LdP (Addr.add (a_12.add 24) (c.toNat * 1)) w21 fun x149 =>
                host_Host_Check.Call x149 w21 fun r150 w22 =>
                R r150 w22) (
                R true w21))) (
            R true w1)))))) = kstep Tryz.prog 151 Tryz.f50.results.toList (Tryz.f50.body.getD .skip) (hostlaw_World_Observe.RV R) (kvc Tryz.prog 151 Tryz.f50.results.toList (Tryz.f50.body.getD .skip) (hostlaw_World_Observe.RV R) [([(0, [1, 1, 0, 1, 0, 1, 0, 1, 1, 0, 1]), (1, [0]), (0, [1, 1, 1])], fun σ w => dK (slotOf σ 8) fun s_ => dI .i64 (slotOf σ 9) fun e_ => dK (slotOf σ 10) fun s2_ => dI .i64 (slotOf σ 11) fun e2_ => sB1 s_ e_ s2_ e2_ w)] 2000) [(0, [])] [(0, .pointer w0), (1, .int .i64 c), (2, .agg #[.int .i64 o_0, .int .i64 o_1, .int .i64 o_2, .int .i64 o_3, .string o_4, .string o_5])] w := by kernel_rfl
theorem hostlaw_World_Observe.B0_sound {R : Bool → World → Prop}  (w0 : Option Addr) (c o_0 o_1 o_2 o_3 : Int) (o_4 o_5 : ByteArray) (w : World) (h : hostlaw_World_Observe.B0 w0 c o_0 o_1 o_2 o_3 o_4 o_5 w   R) :
    KW Tryz.prog 50 151 (hostlaw_World_Observe.RV R) ([(0, [])].map (toItem (Tryz.f50.body.getD .skip))) [(0, .pointer w0), (1, .int .i64 c), (2, .agg #[.int .i64 o_0, .int .i64 o_1, .int .i64 o_2, .int .i64 o_3, .string o_4, .string o_5])] w := by
  exact block_spec Tryz.func50 Tryz.mixed (stops_cons (fun σ w h => by
      obtain ⟨s_, e0, h⟩ := dK_elim h
      obtain ⟨e_, e1, h⟩ := dI_elim h
      obtain ⟨s2_, e2, h⟩ := dK_elim h
      obtain ⟨e2_, e3, h⟩ := dI_elim h
      exact (hostlaw_World_Observe.B1_sound  s_ e_ s2_ e2_ w h).weaken (Sub.cons (Sub.cons (Sub.cons (Sub.cons (Sub.nil _) e3) e2) e1) e0)) stops_nil) (Eq.mp (hostlaw_World_Observe.B0_eq w0 c o_0 o_1 o_2 o_3 o_4 o_5 w   R (fun s_ e_ s2_ e2_ w => hostlaw_World_Observe.B1 s_ e_ s2_ e2_ w  R)) h)
theorem hostlaw_World_Observe.sound (w0 : Option Addr) (c o_0 o_1 o_2 o_3 : Int) (o_4 o_5 : ByteArray) (w : World) (R : Bool → World → Prop) (h : hostlaw_World_Observe.B0 w0 c o_0 o_1 o_2 o_3 o_4 o_5 w R) : hostlaw_World_Observe.Call w0 c o_0 o_1 o_2 o_3 o_4 o_5 w R := by
  have hc := calls_of_block (args := #[.pointer w0, .int .i64 c, .agg #[.int .i64 o_0, .int .i64 o_1, .int .i64 o_2, .int .i64 o_3, .string o_4, .string o_5]]) Tryz.func50 (body := (Tryz.f50.body.getD .skip)) (by kernel_rfl) (by kernel_rfl) (args_slot _) (hostlaw_World_Observe.B0_sound w0 c o_0 o_1 o_2 o_3 o_4 o_5 w h)
  exact hc.mono fun e w' he => by
    obtain ⟨v, rfl, hv⟩ := he
    exact hostlaw_World_Observe.RV_elim hv
def hostlaw_Token.L1b (j : Int) (t_b : Option Addr) (t_l t_c : Nat) (i : Int) (w : World)  (N1 : Int → Option Addr → Nat → Nat → Int → World → Prop) (R : Option Addr → Nat → Nat → World → Prop) : Prop :=
  Bm (decide (i < (4 : Int))) (
    hostlaw_Stamp.Call j i w fun r14 w1 =>
    Pn t_b fun a =>
    (0 ≤ i ∧ i < ((t_l : Nat) : Int)) ∧
    Sts [.int .u8 r14] (Addr.add a (i.toNat * 1)) 0 w1 fun w2 =>
    N1 j t_b t_l t_c (IntKind.i64.wrap (i + (1 : Int))) w2) (
    R t_b t_l t_c w)
theorem hostlaw_Token.L1b_eq (j : Int) (t_b : Option Addr) (t_l t_c : Nat) (i : Int) (w : World)  (N1 : Int → Option Addr → Nat → Nat → Int → World → Prop) (R : Option Addr → Nat → Nat → World → Prop)  :
    (
  Bm (decide (i < (4 : Int))) (
    hostlaw_Stamp.Call j i w fun r14 w1 =>
    Pn t_b fun a =>
    (0 ≤ i ∧ i < ((t_l : Nat) : Int)) ∧
    Sts [.int .u8 r14] (Addr.add a (i.toNat * 1)) 0 w1 fun w2 =>
    N1 j t_b t_l t_c (IntKind.i64.wrap (i + (1 : Int))) w2) (
    R t_b t_l t_c w)) = kstep Tryz.prog 17 Tryz.f51.results.toList (Tryz.f51.body.getD .skip) (hostlaw_Token.RV R) (kvc Tryz.prog 17 Tryz.f51.results.toList (Tryz.f51.body.getD .skip) (hostlaw_Token.RV R) [([(0, [1, 1, 0, 1, 0, 0]), (2, [1, 1, 0, 1, 0, 0]), (1, [0]), (0, [1, 1, 1])], fun σ w => dI .i64 (slotOf σ 0) fun j_ => dL (slotOf σ 3) fun t_b_ t_l_ t_c_ => dI .i64 (slotOf σ 4) fun i_ => N1 j_ t_b_ t_l_ t_c_ i_ w)] 2000) [(0, [1, 1, 0, 1, 0, 0]), (2, [1, 1, 0, 1, 0, 0]), (1, [0]), (0, [1, 1, 1])] [(0, .int .i64 j), (3, .slice t_b t_l t_c), (4, .int .i64 i)] w := by kernel_rfl
theorem hostlaw_Token.L1b_sound {R : Option Addr → Nat → Nat → World → Prop} {N1 : Int → Option Addr → Nat → Nat → Int → World → Prop} (hN1 : ∀ j t_b t_l t_c i w, N1 j t_b t_l t_c i w → KW Tryz.prog 51 17 (hostlaw_Token.RV R) ([(0, [1, 1, 0, 1, 0, 0]), (2, [1, 1, 0, 1, 0, 0]), (1, [0]), (0, [1, 1, 1])].map (toItem (Tryz.f51.body.getD .skip))) [(0, .int .i64 j), (3, .slice t_b t_l t_c), (4, .int .i64 i)] w) (j : Int) (t_b : Option Addr) (t_l t_c : Nat) (i : Int) (w : World) (h : hostlaw_Token.L1b j t_b t_l t_c i w  N1 R) :
    KW Tryz.prog 51 17 (hostlaw_Token.RV R) ([(0, [1, 1, 0, 1, 0, 0]), (2, [1, 1, 0, 1, 0, 0]), (1, [0]), (0, [1, 1, 1])].map (toItem (Tryz.f51.body.getD .skip))) [(0, .int .i64 j), (3, .slice t_b t_l t_c), (4, .int .i64 i)] w := by
  exact block_spec Tryz.func51 Tryz.mixed (stops_cons (fun σ w h => by
      obtain ⟨j_, e0, h⟩ := dI_elim h
      obtain ⟨t_b_, t_l_, t_c_, e1, h⟩ := dL_elim h
      obtain ⟨i_, e2, h⟩ := dI_elim h
      exact (hN1 j_ t_b_ t_l_ t_c_ i_ w h).weaken (Sub.cons (Sub.cons (Sub.cons (Sub.nil _) e2) e1) e0)) stops_nil) (Eq.mp (hostlaw_Token.L1b_eq j t_b t_l t_c i w  N1 R ) h)
def hostlaw_Token.L1 (j : Int) (t_b : Option Addr) (t_l t_c : Nat) (i : Int) (w : World)  (R : Option Addr → Nat → Nat → World → Prop) : Prop :=
  ∃ (I : Nat → Int → Option Addr → Nat → Nat → Int → World → Prop) (m : Nat), I m j t_b t_l t_c i w ∧ ∀ m j t_b t_l t_c i w, I m j t_b t_l t_c i w → hostlaw_Token.L1b j t_b t_l t_c i w  (fun j' t_b' t_l' t_c' i' w' => ∃ m', m' < m ∧ I m' j' t_b' t_l' t_c' i' w') R
theorem hostlaw_Token.L1_sound {R : Option Addr → Nat → Nat → World → Prop}  (j : Int) (t_b : Option Addr) (t_l t_c : Nat) (i : Int) (w : World) (h : hostlaw_Token.L1 j t_b t_l t_c i w  R) :
    KW Tryz.prog 51 17 (hostlaw_Token.RV R) ([(0, [1, 1, 0, 1, 0, 0]), (2, [1, 1, 0, 1, 0, 0]), (1, [0]), (0, [1, 1, 1])].map (toItem (Tryz.f51.body.getD .skip))) [(0, .int .i64 j), (3, .slice t_b t_l t_c), (4, .int .i64 i)] w := by
  obtain ⟨I, m, hBase, hr⟩ := h
  refine KW.loop (fun m σ w => ∃ (j : Int) (t_b : Option Addr) (t_l t_c : Nat) (i : Int), σ = [(0, .int .i64 j), (3, .slice t_b t_l t_c), (4, .int .i64 i)] ∧ I m j t_b t_l t_c i w) ?_ m _ w ⟨j, t_b, t_l, t_c, i, rfl, hBase⟩
  rintro m ih σ w ⟨j, t_b, t_l, t_c, i, rfl, hI⟩
  exact hostlaw_Token.L1b_sound  (N1 := fun j' t_b' t_l' t_c' i' w' => ∃ m', m' < m ∧ I m' j' t_b' t_l' t_c' i' w') (fun j' t_b' t_l' t_c' i' w' hx => by obtain ⟨m', hlt, hI'⟩ := hx; exact ih m' hlt _ w' ⟨j', t_b', t_l', t_c', i', rfl, hI'⟩) j t_b t_l t_c i w (hr m j t_b t_l t_c i w hI)
def hostlaw_Token.B0 (j : Int) (w : World)   (R : Option Addr → Nat → Nat → World → Prop) : Prop :=
  Make 5 (.int .u8 (0 : Int)) 1 1 (4 : Int) (4 : Int) w fun b5 w1 =>
  hostlaw_Token.L1 j (some ⟨b5, 0, none⟩) 4 4 (0 : Int) w1  R
theorem hostlaw_Token.B0_eq (j : Int) (w : World)   (R : Option Addr → Nat → Nat → World → Prop) (sL1 : Int → Option Addr → Nat → Nat → Int → World → Prop) :
    (
  Make 5 (.int .u8 (0 : Int)) 1 1 (4 : Int) (4 : Int) w fun b5 w1 =>
  sL1 j (some ⟨b5, 0, none⟩) 4 4 (0 : Int) w1) = kstep Tryz.prog 17 Tryz.f51.results.toList (Tryz.f51.body.getD .skip) (hostlaw_Token.RV R) (kvc Tryz.prog 17 Tryz.f51.results.toList (Tryz.f51.body.getD .skip) (hostlaw_Token.RV R) [([(0, [1, 1, 0, 1, 0, 0]), (2, [1, 1, 0, 1, 0, 0]), (1, [0]), (0, [1, 1, 1])], fun σ w => dI .i64 (slotOf σ 0) fun j_ => dL (slotOf σ 3) fun t_b_ t_l_ t_c_ => dI .i64 (slotOf σ 4) fun i_ => sL1 j_ t_b_ t_l_ t_c_ i_ w)] 2000) [(0, [])] [(0, .int .i64 j)] w := by kernel_rfl
theorem hostlaw_Token.B0_sound {R : Option Addr → Nat → Nat → World → Prop}  (j : Int) (w : World) (h : hostlaw_Token.B0 j w   R) :
    KW Tryz.prog 51 17 (hostlaw_Token.RV R) ([(0, [])].map (toItem (Tryz.f51.body.getD .skip))) [(0, .int .i64 j)] w := by
  exact block_spec Tryz.func51 Tryz.mixed (stops_cons (fun σ w h => by
      obtain ⟨j_, e0, h⟩ := dI_elim h
      obtain ⟨t_b_, t_l_, t_c_, e1, h⟩ := dL_elim h
      obtain ⟨i_, e2, h⟩ := dI_elim h
      exact (hostlaw_Token.L1_sound  j_ t_b_ t_l_ t_c_ i_ w h).weaken (Sub.cons (Sub.cons (Sub.cons (Sub.nil _) e2) e1) e0)) stops_nil) (Eq.mp (hostlaw_Token.B0_eq j w   R (fun j_ t_b_ t_l_ t_c_ i_ w => hostlaw_Token.L1 j_ t_b_ t_l_ t_c_ i_ w  R)) h)
theorem hostlaw_Token.sound (j : Int) (w : World) (R : Option Addr → Nat → Nat → World → Prop) (h : hostlaw_Token.B0 j w R) : hostlaw_Token.Call j w R := by
  have hc := calls_of_block (args := #[.int .i64 j]) Tryz.func51 (body := (Tryz.f51.body.getD .skip)) (by kernel_rfl) (by kernel_rfl) (args_slot _) (hostlaw_Token.B0_sound j w h)
  exact hc.mono fun e w' he => by
    obtain ⟨v, rfl, hv⟩ := he
    exact hostlaw_Token.RV_elim hv
def api_SameBytes.L1b (a_b : Option Addr) (a_l a_c : Nat) (b_b : Option Addr) (b_l b_c : Nat) (i : Int) (w : World)  (N1 : Option Addr → Nat → Nat → Option Addr → Nat → Nat → Int → World → Prop) (R : Bool → World → Prop) : Prop :=
  Bm (decide (i < ((a_l : Nat) : Int))) (
    Pn a_b fun a =>
    (0 ≤ i ∧ i < ((a_l : Nat) : Int)) ∧
    LdI .u8 (Addr.add a (i.toNat * 1)) w.drew fun x20 =>
    Pn b_b fun a_1 =>
    (0 ≤ i ∧ i < ((b_l : Nat) : Int)) ∧
    LdI .u8 (Addr.add a_1 (i.toNat * 1)) w.drew fun x24 =>
    Bm (x20 != x24) (
      R false w.drew) (
      N1 a_b a_l a_c b_b b_l b_c (IntKind.i64.wrap (i + (1 : Int))) w.drew)) (
    R true w)
theorem api_SameBytes.L1b_eq (a_b : Option Addr) (a_l a_c : Nat) (b_b : Option Addr) (b_l b_c : Nat) (i : Int) (w : World)  (N1 : Option Addr → Nat → Nat → Option Addr → Nat → Nat → Int → World → Prop) (R : Bool → World → Prop)  :
    (
  Bm (decide (i < ((a_l : Nat) : Int))) (
    Pn a_b fun a =>
    (0 ≤ i ∧ i < ((a_l : Nat) : Int)) ∧
    LdI .u8 (Addr.add a (i.toNat * 1)) w.drew fun x20 =>
    Pn b_b fun a_1 =>
    (0 ≤ i ∧ i < ((b_l : Nat) : Int)) ∧
    LdI .u8 (Addr.add a_1 (i.toNat * 1)) w.drew fun x24 =>
    Bm (x20 != x24) (
      R false w.drew) (
      N1 a_b a_l a_c b_b b_l b_c (IntKind.i64.wrap (i + (1 : Int))) w.drew)) (
    R true w)) = kstep Tryz.prog 26 Tryz.f52.results.toList (Tryz.f52.body.getD .skip) (api_SameBytes.RV R) (kvc Tryz.prog 26 Tryz.f52.results.toList (Tryz.f52.body.getD .skip) (api_SameBytes.RV R) [([(0, [1, 1, 0, 1, 0, 0]), (2, [1, 1, 0, 1, 0, 0]), (1, [0]), (0, [1, 1, 1])], fun σ w => dL (slotOf σ 0) fun a_b_ a_l_ a_c_ => dL (slotOf σ 1) fun b_b_ b_l_ b_c_ => dI .i64 (slotOf σ 5) fun i_ => N1 a_b_ a_l_ a_c_ b_b_ b_l_ b_c_ i_ w)] 2000) [(0, [1, 1, 0, 1, 0, 0]), (2, [1, 1, 0, 1, 0, 0]), (1, [0]), (0, [1, 1, 1])] [(0, .slice a_b a_l a_c), (1, .slice b_b b_l b_c), (5, .int .i64 i)] w := by kernel_rfl
theorem api_SameBytes.L1b_sound {R : Bool → World → Prop} {N1 : Option Addr → Nat → Nat → Option Addr → Nat → Nat → Int → World → Prop} (hN1 : ∀ a_b a_l a_c b_b b_l b_c i w, N1 a_b a_l a_c b_b b_l b_c i w → KW Tryz.prog 52 26 (api_SameBytes.RV R) ([(0, [1, 1, 0, 1, 0, 0]), (2, [1, 1, 0, 1, 0, 0]), (1, [0]), (0, [1, 1, 1])].map (toItem (Tryz.f52.body.getD .skip))) [(0, .slice a_b a_l a_c), (1, .slice b_b b_l b_c), (5, .int .i64 i)] w) (a_b : Option Addr) (a_l a_c : Nat) (b_b : Option Addr) (b_l b_c : Nat) (i : Int) (w : World) (h : api_SameBytes.L1b a_b a_l a_c b_b b_l b_c i w  N1 R) :
    KW Tryz.prog 52 26 (api_SameBytes.RV R) ([(0, [1, 1, 0, 1, 0, 0]), (2, [1, 1, 0, 1, 0, 0]), (1, [0]), (0, [1, 1, 1])].map (toItem (Tryz.f52.body.getD .skip))) [(0, .slice a_b a_l a_c), (1, .slice b_b b_l b_c), (5, .int .i64 i)] w := by
  exact block_spec Tryz.func52 Tryz.mixed (stops_cons (fun σ w h => by
      obtain ⟨a_b_, a_l_, a_c_, e0, h⟩ := dL_elim h
      obtain ⟨b_b_, b_l_, b_c_, e1, h⟩ := dL_elim h
      obtain ⟨i_, e2, h⟩ := dI_elim h
      exact (hN1 a_b_ a_l_ a_c_ b_b_ b_l_ b_c_ i_ w h).weaken (Sub.cons (Sub.cons (Sub.cons (Sub.nil _) e2) e1) e0)) stops_nil) (Eq.mp (api_SameBytes.L1b_eq a_b a_l a_c b_b b_l b_c i w  N1 R ) h)
def api_SameBytes.L1 (a_b : Option Addr) (a_l a_c : Nat) (b_b : Option Addr) (b_l b_c : Nat) (i : Int) (w : World)  (R : Bool → World → Prop) : Prop :=
  ∃ (I : Nat → Option Addr → Nat → Nat → Option Addr → Nat → Nat → Int → World → Prop) (m : Nat), I m a_b a_l a_c b_b b_l b_c i w ∧ ∀ m a_b a_l a_c b_b b_l b_c i w, I m a_b a_l a_c b_b b_l b_c i w → api_SameBytes.L1b a_b a_l a_c b_b b_l b_c i w  (fun a_b' a_l' a_c' b_b' b_l' b_c' i' w' => ∃ m', m' < m ∧ I m' a_b' a_l' a_c' b_b' b_l' b_c' i' w') R
theorem api_SameBytes.L1_sound {R : Bool → World → Prop}  (a_b : Option Addr) (a_l a_c : Nat) (b_b : Option Addr) (b_l b_c : Nat) (i : Int) (w : World) (h : api_SameBytes.L1 a_b a_l a_c b_b b_l b_c i w  R) :
    KW Tryz.prog 52 26 (api_SameBytes.RV R) ([(0, [1, 1, 0, 1, 0, 0]), (2, [1, 1, 0, 1, 0, 0]), (1, [0]), (0, [1, 1, 1])].map (toItem (Tryz.f52.body.getD .skip))) [(0, .slice a_b a_l a_c), (1, .slice b_b b_l b_c), (5, .int .i64 i)] w := by
  obtain ⟨I, m, hBase, hr⟩ := h
  refine KW.loop (fun m σ w => ∃ (a_b : Option Addr) (a_l a_c : Nat) (b_b : Option Addr) (b_l b_c : Nat) (i : Int), σ = [(0, .slice a_b a_l a_c), (1, .slice b_b b_l b_c), (5, .int .i64 i)] ∧ I m a_b a_l a_c b_b b_l b_c i w) ?_ m _ w ⟨a_b, a_l, a_c, b_b, b_l, b_c, i, rfl, hBase⟩
  rintro m ih σ w ⟨a_b, a_l, a_c, b_b, b_l, b_c, i, rfl, hI⟩
  exact api_SameBytes.L1b_sound  (N1 := fun a_b' a_l' a_c' b_b' b_l' b_c' i' w' => ∃ m', m' < m ∧ I m' a_b' a_l' a_c' b_b' b_l' b_c' i' w') (fun a_b' a_l' a_c' b_b' b_l' b_c' i' w' hx => by obtain ⟨m', hlt, hI'⟩ := hx; exact ih m' hlt _ w' ⟨a_b', a_l', a_c', b_b', b_l', b_c', i', rfl, hI'⟩) a_b a_l a_c b_b b_l b_c i w (hr m a_b a_l a_c b_b b_l b_c i w hI)
def api_SameBytes.B0 (a_b : Option Addr) (a_l a_c : Nat) (b_b : Option Addr) (b_l b_c : Nat) (w : World)   (R : Bool → World → Prop) : Prop :=
  Bm (((a_l : Nat) : Int) != ((b_l : Nat) : Int)) (
    R false w) (
    api_SameBytes.L1 a_b a_l a_c b_b b_l b_c (0 : Int) w  R)
theorem api_SameBytes.B0_eq (a_b : Option Addr) (a_l a_c : Nat) (b_b : Option Addr) (b_l b_c : Nat) (w : World)   (R : Bool → World → Prop) (sL1 : Option Addr → Nat → Nat → Option Addr → Nat → Nat → Int → World → Prop) :
    (
  Bm (((a_l : Nat) : Int) != ((b_l : Nat) : Int)) (
    R false w) (
    sL1 a_b a_l a_c b_b b_l b_c (0 : Int) w)) = kstep Tryz.prog 26 Tryz.f52.results.toList (Tryz.f52.body.getD .skip) (api_SameBytes.RV R) (kvc Tryz.prog 26 Tryz.f52.results.toList (Tryz.f52.body.getD .skip) (api_SameBytes.RV R) [([(0, [1, 1, 0, 1, 0, 0]), (2, [1, 1, 0, 1, 0, 0]), (1, [0]), (0, [1, 1, 1])], fun σ w => dL (slotOf σ 0) fun a_b_ a_l_ a_c_ => dL (slotOf σ 1) fun b_b_ b_l_ b_c_ => dI .i64 (slotOf σ 5) fun i_ => sL1 a_b_ a_l_ a_c_ b_b_ b_l_ b_c_ i_ w)] 2000) [(0, [])] [(0, .slice a_b a_l a_c), (1, .slice b_b b_l b_c)] w := by kernel_rfl
theorem api_SameBytes.B0_sound {R : Bool → World → Prop}  (a_b : Option Addr) (a_l a_c : Nat) (b_b : Option Addr) (b_l b_c : Nat) (w : World) (h : api_SameBytes.B0 a_b a_l a_c b_b b_l b_c w   R) :
    KW Tryz.prog 52 26 (api_SameBytes.RV R) ([(0, [])].map (toItem (Tryz.f52.body.getD .skip))) [(0, .slice a_b a_l a_c), (1, .slice b_b b_l b_c)] w := by
  exact block_spec Tryz.func52 Tryz.mixed (stops_cons (fun σ w h => by
      obtain ⟨a_b_, a_l_, a_c_, e0, h⟩ := dL_elim h
      obtain ⟨b_b_, b_l_, b_c_, e1, h⟩ := dL_elim h
      obtain ⟨i_, e2, h⟩ := dI_elim h
      exact (api_SameBytes.L1_sound  a_b_ a_l_ a_c_ b_b_ b_l_ b_c_ i_ w h).weaken (Sub.cons (Sub.cons (Sub.cons (Sub.nil _) e2) e1) e0)) stops_nil) (Eq.mp (api_SameBytes.B0_eq a_b a_l a_c b_b b_l b_c w   R (fun a_b_ a_l_ a_c_ b_b_ b_l_ b_c_ i_ w => api_SameBytes.L1 a_b_ a_l_ a_c_ b_b_ b_l_ b_c_ i_ w  R)) h)
theorem api_SameBytes.sound (a_b : Option Addr) (a_l a_c : Nat) (b_b : Option Addr) (b_l b_c : Nat) (w : World) (R : Bool → World → Prop) (h : api_SameBytes.B0 a_b a_l a_c b_b b_l b_c w R) : api_SameBytes.Call a_b a_l a_c b_b b_l b_c w R := by
  have hc := calls_of_block (args := #[.slice a_b a_l a_c, .slice b_b b_l b_c]) Tryz.func52 (body := (Tryz.f52.body.getD .skip)) (by kernel_rfl) (by kernel_rfl) (args_slot _) (api_SameBytes.B0_sound a_b a_l a_c b_b b_l b_c w h)
  exact hc.mono fun e w' he => by
    obtain ⟨v, rfl, hv⟩ := he
    exact api_SameBytes.RV_elim hv
def hostlaw_Stamp.B1 (j : Int) (w : World)   (R : Int → World → Prop) : Prop :=
  (256 : Int) ≠ 0 ∧
  R (IntKind.u8.wrap (BitVec.ofInt IntKind.u8.bits (IntKind.u8.wrap (j.tmod (256 : Int))) ^^^ BitVec.ofInt IntKind.u8.bits (165 : Int)).toNat) w
theorem hostlaw_Stamp.B1_eq (j : Int) (w : World)   (R : Int → World → Prop)  :
    (
  (256 : Int) ≠ 0 ∧
  R (IntKind.u8.wrap (BitVec.ofInt IntKind.u8.bits (IntKind.u8.wrap (j.tmod (256 : Int))) ^^^ BitVec.ofInt IntKind.u8.bits (165 : Int)).toNat) w) = kstep Tryz.prog 23 Tryz.f53.results.toList (Tryz.f53.body.getD .skip) (hostlaw_Stamp.RV R) (kvc Tryz.prog 23 Tryz.f53.results.toList (Tryz.f53.body.getD .skip) (hostlaw_Stamp.RV R) [] 2000) [(0, [1, 1])] [(0, .int .i64 j)] w := by kernel_rfl
theorem hostlaw_Stamp.B1_sound {R : Int → World → Prop}  (j : Int) (w : World) (h : hostlaw_Stamp.B1 j w   R) :
    KW Tryz.prog 53 23 (hostlaw_Stamp.RV R) ([(0, [1, 1])].map (toItem (Tryz.f53.body.getD .skip))) [(0, .int .i64 j)] w := by
  exact block_spec Tryz.func53 Tryz.mixed stops_nil (Eq.mp (hostlaw_Stamp.B1_eq j w   R ) h)
def hostlaw_Stamp.B0 (j i : Int) (w : World)   (R : Int → World → Prop) : Prop :=
  (4 : Int) ≠ 0 ∧
  Bm ((i.tmod (4 : Int)) == (1 : Int)) (
    (256 : Int) ≠ 0 ∧
    hostlaw_Stamp.B1 (IntKind.i64.wrap (j.tdiv (256 : Int))) w  R) (
    Bm ((i.tmod (4 : Int)) == (2 : Int)) (
      (65536 : Int) ≠ 0 ∧
      hostlaw_Stamp.B1 (IntKind.i64.wrap (j.tdiv (65536 : Int))) w  R) (
      Bm ((i.tmod (4 : Int)) == (3 : Int)) (
        (16777216 : Int) ≠ 0 ∧
        hostlaw_Stamp.B1 (IntKind.i64.wrap (j.tdiv (16777216 : Int))) w  R) (
        hostlaw_Stamp.B1 j w  R)))
theorem hostlaw_Stamp.B0_eq (j i : Int) (w : World)   (R : Int → World → Prop) (sB1 : Int → World → Prop) :
    (
  (4 : Int) ≠ 0 ∧
  Bm ((i.tmod (4 : Int)) == (1 : Int)) (
    (256 : Int) ≠ 0 ∧
    sB1 (IntKind.i64.wrap (j.tdiv (256 : Int))) w) (
    Bm ((i.tmod (4 : Int)) == (2 : Int)) (
      (65536 : Int) ≠ 0 ∧
      sB1 (IntKind.i64.wrap (j.tdiv (65536 : Int))) w) (
      Bm ((i.tmod (4 : Int)) == (3 : Int)) (
        (16777216 : Int) ≠ 0 ∧
        sB1 (IntKind.i64.wrap (j.tdiv (16777216 : Int))) w) (
        sB1 j w)))) = kstep Tryz.prog 23 Tryz.f53.results.toList (Tryz.f53.body.getD .skip) (hostlaw_Stamp.RV R) (kvc Tryz.prog 23 Tryz.f53.results.toList (Tryz.f53.body.getD .skip) (hostlaw_Stamp.RV R) [([(0, [1, 1])], fun σ w => dI .i64 (slotOf σ 0) fun j_ => sB1 j_ w)] 2000) [(0, [])] [(0, .int .i64 j), (1, .int .i64 i)] w := by kernel_rfl
theorem hostlaw_Stamp.B0_sound {R : Int → World → Prop}  (j i : Int) (w : World) (h : hostlaw_Stamp.B0 j i w   R) :
    KW Tryz.prog 53 23 (hostlaw_Stamp.RV R) ([(0, [])].map (toItem (Tryz.f53.body.getD .skip))) [(0, .int .i64 j), (1, .int .i64 i)] w := by
  exact block_spec Tryz.func53 Tryz.mixed (stops_cons (fun σ w h => by
      obtain ⟨j_, e0, h⟩ := dI_elim h
      exact (hostlaw_Stamp.B1_sound  j_ w h).weaken (Sub.cons (Sub.nil _) e0)) stops_nil) (Eq.mp (hostlaw_Stamp.B0_eq j i w   R (fun j_ w => hostlaw_Stamp.B1 j_ w  R)) h)
theorem hostlaw_Stamp.sound (j i : Int) (w : World) (R : Int → World → Prop) (h : hostlaw_Stamp.B0 j i w R) : hostlaw_Stamp.Call j i w R := by
  have hc := calls_of_block (args := #[.int .i64 j, .int .i64 i]) Tryz.func53 (body := (Tryz.f53.body.getD .skip)) (by kernel_rfl) (by kernel_rfl) (args_slot _) (hostlaw_Stamp.B0_sound j i w h)
  exact hc.mono fun e w' he => by
    obtain ⟨v, rfl, hv⟩ := he
    exact hostlaw_Stamp.RV_elim hv
def hostm_Net_failed.B0 (n : Option Addr) (i : Int) (w : World)   (R : Bool → World → Prop) : Prop :=
  Pn n fun a =>
  LdL a w fun x8_b x8_l x8_c =>
  Pn x8_b fun a_1 =>
  (0 ≤ i ∧ i < ((x8_l : Nat) : Int)) ∧
  LdI .i64 ((Addr.add a_1 (i.toNat * 16)).add 10) w fun x12 =>
  Bm (x12 == (4 : Int)) (
    Pn n fun a_2 =>
    LdL a_2 w fun x18_b x18_l x18_c =>
    Pn x18_b fun a_3 =>
    (0 ≤ i ∧ i < ((x18_l : Nat) : Int)) ∧
    LdI .i64 ((Addr.add a_3 (i.toNat * 16)).add 11) w fun x22 =>
    R (x22 != (0 : Int)) w) (
    R false w)
theorem hostm_Net_failed.B0_eq (n : Option Addr) (i : Int) (w : World)   (R : Bool → World → Prop)  :
    (
  Pn n fun a =>
  LdL a w fun x8_b x8_l x8_c =>
  Pn x8_b fun a_1 =>
  (0 ≤ i ∧ i < ((x8_l : Nat) : Int)) ∧
  LdI .i64 ((Addr.add a_1 (i.toNat * 16)).add 10) w fun x12 =>
  Bm (x12 == (4 : Int)) (
    Pn n fun a_2 =>
    LdL a_2 w fun x18_b x18_l x18_c =>
    Pn x18_b fun a_3 =>
    (0 ≤ i ∧ i < ((x18_l : Nat) : Int)) ∧
    LdI .i64 ((Addr.add a_3 (i.toNat * 16)).add 11) w fun x22 =>
    R (x22 != (0 : Int)) w) (
    R false w)) = kstep Tryz.prog 25 Tryz.f54.results.toList (Tryz.f54.body.getD .skip) (hostm_Net_failed.RV R) (kvc Tryz.prog 25 Tryz.f54.results.toList (Tryz.f54.body.getD .skip) (hostm_Net_failed.RV R) [] 2000) [(0, [])] [(0, .pointer n), (1, .int .i64 i)] w := by kernel_rfl
theorem hostm_Net_failed.B0_sound {R : Bool → World → Prop}  (n : Option Addr) (i : Int) (w : World) (h : hostm_Net_failed.B0 n i w   R) :
    KW Tryz.prog 54 25 (hostm_Net_failed.RV R) ([(0, [])].map (toItem (Tryz.f54.body.getD .skip))) [(0, .pointer n), (1, .int .i64 i)] w := by
  exact block_spec Tryz.func54 Tryz.mixed stops_nil (Eq.mp (hostm_Net_failed.B0_eq n i w   R ) h)
theorem hostm_Net_failed.sound (n : Option Addr) (i : Int) (w : World) (R : Bool → World → Prop) (h : hostm_Net_failed.B0 n i w R) : hostm_Net_failed.Call n i w R := by
  have hc := calls_of_block (args := #[.pointer n, .int .i64 i]) Tryz.func54 (body := (Tryz.f54.body.getD .skip)) (by kernel_rfl) (by kernel_rfl) (args_slot _) (hostm_Net_failed.B0_sound n i w h)
  exact hc.mono fun e w' he => by
    obtain ⟨v, rfl, hv⟩ := he
    exact hostm_Net_failed.RV_elim hv
def hostlaw_World_ours.B0 (w0 : Option Addr) (c sd : Int) (w : World)   (R : Int → Int → Int → Int → Int → Int → Int → Bool → Option Addr → Bool → World → Prop) : Prop :=
  New (.cells #[.int .i64 (0 : Int), .int .i64 (0 : Int), .int .i64 (0 : Int), .int .i64 (0 : Int), .int .i64 (0 : Int), .int .i64 (0 : Int), .int .i64 (0 : Int), .bool false, .pointer none] 69) w fun b6 w1 =>
  Pn w0 fun a =>
  (0 ≤ c ∧ c < ((3 : Nat) : Int)) ∧
  LdP (Addr.add a (c.toNat * 1)) w1 fun x16 =>
  host_Host_Info.Call x16 sd w1 fun r18_0_0 r18_0_1 r18_0_2 r18_0_3 r18_0_4 r18_0_5 r18_0_6 r18_0_7 r18_0_8 r18_1 w2 =>
  New (.cells #[.int .i64 (0 : Int), .int .i64 (0 : Int), .int .i64 (0 : Int), .int .i64 (0 : Int), .int .i64 (0 : Int), .int .i64 (0 : Int), .int .i64 (0 : Int), .bool false, .pointer none] 69) w2 fun s_ w3 =>
  Sts [.int .i64 r18_0_0, .int .i64 r18_0_1, .int .i64 r18_0_2, .int .i64 r18_0_3, .int .i64 r18_0_4, .int .i64 r18_0_5, .int .i64 r18_0_6, .bool r18_0_7, .pointer r18_0_8] ⟨s_, 0, none⟩ 0 w3 fun w4 =>
  LdI .i64 ⟨s_, 0, none⟩ w4.drew fun x21_0 =>
  LdI .i64 ⟨s_, 1, none⟩ w4.drew fun x21_1 =>
  LdI .i64 ⟨s_, 2, none⟩ w4.drew fun x21_2 =>
  LdI .i64 ⟨s_, 3, none⟩ w4.drew fun x21_3 =>
  LdI .i64 ⟨s_, 4, none⟩ w4.drew fun x21_4 =>
  LdI .i64 ⟨s_, 5, none⟩ w4.drew fun x21_5 =>
  LdI .i64 ⟨s_, 6, none⟩ w4.drew fun x21_6 =>
  LdB ⟨s_, 7, none⟩ w4.drew fun x21_7 =>
  LdP ⟨s_, 8, none⟩ w4.drew fun x21_8 =>
  Bm (r18_1 == (0 : Int)) (
    LdI .i64 ⟨s_, 1, none⟩ w4.drew fun x27 =>
    Bm (x27 == (2 : Int)) (
      LdI .i64 ⟨s_, 6, none⟩ w4.drew fun x33 =>
      Sts [.int .i64 x21_0, .int .i64 x21_1, .int .i64 x21_2, .int .i64 x21_3, .int .i64 x21_4, .int .i64 x21_5, .int .i64 x21_6, .bool x21_7, .pointer x21_8] ⟨b6, 0, none⟩ 0 w4.drew fun w5 =>
      w5.cell? ⟨s_, 6, none⟩ = some (.int .i64 x33) ∧
      LdI .i64 ⟨b6, 0, none⟩ w5 fun r_0 =>
      LdI .i64 ⟨b6, 1, none⟩ w5 fun r_1 =>
      LdI .i64 ⟨b6, 2, none⟩ w5 fun r_2 =>
      LdI .i64 ⟨b6, 3, none⟩ w5 fun r_3 =>
      LdI .i64 ⟨b6, 4, none⟩ w5 fun r_4 =>
      LdI .i64 ⟨b6, 5, none⟩ w5 fun r_5 =>
      LdI .i64 ⟨b6, 6, none⟩ w5 fun r_6 =>
      LdB ⟨b6, 7, none⟩ w5 fun r_7 =>
      LdP ⟨b6, 8, none⟩ w5 fun r_8 =>
      R r_0 r_1 r_2 r_3 r_4 r_5 r_6 r_7 r_8 (x33 == (0 : Int)) w5) (
      Sts [.int .i64 x21_0, .int .i64 x21_1, .int .i64 x21_2, .int .i64 x21_3, .int .i64 x21_4, .int .i64 x21_5, .int .i64 x21_6, .bool x21_7, .pointer x21_8] ⟨b6, 0, none⟩ 0 w4.drew fun w6 =>
      LdI .i64 ⟨b6, 0, none⟩ w6 fun r_0_1 =>
      LdI .i64 ⟨b6, 1, none⟩ w6 fun r_1_1 =>
      LdI .i64 ⟨b6, 2, none⟩ w6 fun r_2_1 =>
      LdI .i64 ⟨b6, 3, none⟩ w6 fun r_3_1 =>
      LdI .i64 ⟨b6, 4, none⟩ w6 fun r_4_1 =>
      LdI .i64 ⟨b6, 5, none⟩ w6 fun r_5_1 =>
      LdI .i64 ⟨b6, 6, none⟩ w6 fun r_6_1 =>
      LdB ⟨b6, 7, none⟩ w6 fun r_7_1 =>
      LdP ⟨b6, 8, none⟩ w6 fun r_8_1 =>
      R r_0_1 r_1_1 r_2_1 r_3_1 r_4_1 r_5_1 r_6_1 r_7_1 r_8_1 false w6)) (
    Sts [.int .i64 x21_0, .int .i64 x21_1, .int .i64 x21_2, .int .i64 x21_3, .int .i64 x21_4, .int .i64 x21_5, .int .i64 x21_6, .bool x21_7, .pointer x21_8] ⟨b6, 0, none⟩ 0 w4.drew fun w7 =>
    LdI .i64 ⟨b6, 0, none⟩ w7 fun r_0_2 =>
    LdI .i64 ⟨b6, 1, none⟩ w7 fun r_1_2 =>
    LdI .i64 ⟨b6, 2, none⟩ w7 fun r_2_2 =>
    LdI .i64 ⟨b6, 3, none⟩ w7 fun r_3_2 =>
    LdI .i64 ⟨b6, 4, none⟩ w7 fun r_4_2 =>
    LdI .i64 ⟨b6, 5, none⟩ w7 fun r_5_2 =>
    LdI .i64 ⟨b6, 6, none⟩ w7 fun r_6_2 =>
    LdB ⟨b6, 7, none⟩ w7 fun r_7_2 =>
    LdP ⟨b6, 8, none⟩ w7 fun r_8_2 =>
    R r_0_2 r_1_2 r_2_2 r_3_2 r_4_2 r_5_2 r_6_2 r_7_2 r_8_2 false w7)
theorem hostlaw_World_ours.B0_eq (w0 : Option Addr) (c sd : Int) (w : World)   (R : Int → Int → Int → Int → Int → Int → Int → Bool → Option Addr → Bool → World → Prop)  :
    (
  New (.cells #[.int .i64 (0 : Int), .int .i64 (0 : Int), .int .i64 (0 : Int), .int .i64 (0 : Int), .int .i64 (0 : Int), .int .i64 (0 : Int), .int .i64 (0 : Int), .bool false, .pointer none] 69) w fun b6 w1 =>
  Pn w0 fun a =>
  (0 ≤ c ∧ c < ((3 : Nat) : Int)) ∧
  LdP (Addr.add a (c.toNat * 1)) w1 fun x16 =>
  host_Host_Info.Call x16 sd w1 fun r18_0_0 r18_0_1 r18_0_2 r18_0_3 r18_0_4 r18_0_5 r18_0_6 r18_0_7 r18_0_8 r18_1 w2 =>
  New (.cells #[.int .i64 (0 : Int), .int .i64 (0 : Int), .int .i64 (0 : Int), .int .i64 (0 : Int), .int .i64 (0 : Int), .int .i64 (0 : Int), .int .i64 (0 : Int), .bool false, .pointer none] 69) w2 fun s_ w3 =>
  Sts [.int .i64 r18_0_0, .int .i64 r18_0_1, .int .i64 r18_0_2, .int .i64 r18_0_3, .int .i64 r18_0_4, .int .i64 r18_0_5, .int .i64 r18_0_6, .bool r18_0_7, .pointer r18_0_8] ⟨s_, 0, none⟩ 0 w3 fun w4 =>
  LdI .i64 ⟨s_, 0, none⟩ w4.drew fun x21_0 =>
  LdI .i64 ⟨s_, 1, none⟩ w4.drew fun x21_1 =>
  LdI .i64 ⟨s_, 2, none⟩ w4.drew fun x21_2 =>
  LdI .i64 ⟨s_, 3, none⟩ w4.drew fun x21_3 =>
  LdI .i64 ⟨s_, 4, none⟩ w4.drew fun x21_4 =>
  LdI .i64 ⟨s_, 5, none⟩ w4.drew fun x21_5 =>
  LdI .i64 ⟨s_, 6, none⟩ w4.drew fun x21_6 =>
  LdB ⟨s_, 7, none⟩ w4.drew fun x21_7 =>
  LdP ⟨s_, 8, none⟩ w4.drew fun x21_8 =>
  Bm (r18_1 == (0 : Int)) (
    LdI .i64 ⟨s_, 1, none⟩ w4.drew fun x27 =>
    Bm (x27 == (2 : Int)) (
      LdI .i64 ⟨s_, 6, none⟩ w4.drew fun x33 =>
      Sts [.int .i64 x21_0, .int .i64 x21_1, .int .i64 x21_2, .int .i64 x21_3, .int .i64 x21_4, .int .i64 x21_5, .int .i64 x21_6, .bool x21_7, .pointer x21_8] ⟨b6, 0, none⟩ 0 w4.drew fun w5 =>
      w5.cell? ⟨s_, 6, none⟩ = some (.int .i64 x33) ∧
      LdI .i64 ⟨b6, 0, none⟩ w5 fun r_0 =>
      LdI .i64 ⟨b6, 1, none⟩ w5 fun r_1 =>
      LdI .i64 ⟨b6, 2, none⟩ w5 fun r_2 =>
      LdI .i64 ⟨b6, 3, none⟩ w5 fun r_3 =>
      LdI .i64 ⟨b6, 4, none⟩ w5 fun r_4 =>
      LdI .i64 ⟨b6, 5, none⟩ w5 fun r_5 =>
      LdI .i64 ⟨b6, 6, none⟩ w5 fun r_6 =>
      LdB ⟨b6, 7, none⟩ w5 fun r_7 =>
      LdP ⟨b6, 8, none⟩ w5 fun r_8 =>
      R r_0 r_1 r_2 r_3 r_4 r_5 r_6 r_7 r_8 (x33 == (0 : Int)) w5) (
      Sts [.int .i64 x21_0, .int .i64 x21_1, .int .i64 x21_2, .int .i64 x21_3, .int .i64 x21_4, .int .i64 x21_5, .int .i64 x21_6, .bool x21_7, .pointer x21_8] ⟨b6, 0, none⟩ 0 w4.drew fun w6 =>
      LdI .i64 ⟨b6, 0, none⟩ w6 fun r_0_1 =>
      LdI .i64 ⟨b6, 1, none⟩ w6 fun r_1_1 =>
      LdI .i64 ⟨b6, 2, none⟩ w6 fun r_2_1 =>
      LdI .i64 ⟨b6, 3, none⟩ w6 fun r_3_1 =>
      LdI .i64 ⟨b6, 4, none⟩ w6 fun r_4_1 =>
      LdI .i64 ⟨b6, 5, none⟩ w6 fun r_5_1 =>
      LdI .i64 ⟨b6, 6, none⟩ w6 fun r_6_1 =>
      LdB ⟨b6, 7, none⟩ w6 fun r_7_1 =>
      LdP ⟨b6, 8, none⟩ w6 fun r_8_1 =>
      R r_0_1 r_1_1 r_2_1 r_3_1 r_4_1 r_5_1 r_6_1 r_7_1 r_8_1 false w6)) (
    Sts [.int .i64 x21_0, .int .i64 x21_1, .int .i64 x21_2, .int .i64 x21_3, .int .i64 x21_4, .int .i64 x21_5, .int .i64 x21_6, .bool x21_7, .pointer x21_8] ⟨b6, 0, none⟩ 0 w4.drew fun w7 =>
    LdI .i64 ⟨b6, 0, none⟩ w7 fun r_0_2 =>
    LdI .i64 ⟨b6, 1, none⟩ w7 fun r_1_2 =>
    LdI .i64 ⟨b6, 2, none⟩ w7 fun r_2_2 =>
    LdI .i64 ⟨b6, 3, none⟩ w7 fun r_3_2 =>
    LdI .i64 ⟨b6, 4, none⟩ w7 fun r_4_2 =>
    LdI .i64 ⟨b6, 5, none⟩ w7 fun r_5_2 =>
    LdI .i64 ⟨b6, 6, none⟩ w7 fun r_6_2 =>
    LdB ⟨b6, 7, none⟩ w7 fun r_7_2 =>
    LdP ⟨b6, 8, none⟩ w7 fun r_8_2 =>
    R r_0_2 r_1_2 r_2_2 r_3_2 r_4_2 r_5_2 r_6_2 r_7_2 r_8_2 false w7)) = kstep Tryz.prog 36 Tryz.f55.results.toList (Tryz.f55.body.getD .skip) (hostlaw_World_ours.RV R) (kvc Tryz.prog 36 Tryz.f55.results.toList (Tryz.f55.body.getD .skip) (hostlaw_World_ours.RV R) [] 2000) [(0, [])] [(0, .pointer w0), (1, .int .i64 c), (2, .int .i64 sd)] w := by kernel_rfl
theorem hostlaw_World_ours.B0_sound {R : Int → Int → Int → Int → Int → Int → Int → Bool → Option Addr → Bool → World → Prop}  (w0 : Option Addr) (c sd : Int) (w : World) (h : hostlaw_World_ours.B0 w0 c sd w   R) :
    KW Tryz.prog 55 36 (hostlaw_World_ours.RV R) ([(0, [])].map (toItem (Tryz.f55.body.getD .skip))) [(0, .pointer w0), (1, .int .i64 c), (2, .int .i64 sd)] w := by
  exact block_spec Tryz.func55 Tryz.mixed stops_nil (Eq.mp (hostlaw_World_ours.B0_eq w0 c sd w   R ) h)
theorem hostlaw_World_ours.sound (w0 : Option Addr) (c sd : Int) (w : World) (R : Int → Int → Int → Int → Int → Int → Int → Bool → Option Addr → Bool → World → Prop) (h : hostlaw_World_ours.B0 w0 c sd w R) : hostlaw_World_ours.Call w0 c sd w R := by
  have hc := calls_of_block (args := #[.pointer w0, .int .i64 c, .int .i64 sd]) Tryz.func55 (body := (Tryz.f55.body.getD .skip)) (by kernel_rfl) (by kernel_rfl) (args_slot _) (hostlaw_World_ours.B0_sound w0 c sd w h)
  exact hc.mono fun e w' he => by
    obtain ⟨v, rfl, hv⟩ := he
    exact hostlaw_World_ours.RV_elim hv
def hostlaw_World_listens.B2 (w0 : Option Addr) (c port i : Int) (t54 : Bool) (w : World) (N1 : Option Addr → Int → Int → Int → World → Prop)  (R : Bool → World → Prop) : Prop :=
  Bm t54 (
    R true w) (
    N1 w0 c port (IntKind.i64.wrap (i + (1 : Int))) w)
theorem hostlaw_World_listens.B2_eq (w0 : Option Addr) (c port i : Int) (t54 : Bool) (w : World) (N1 : Option Addr → Int → Int → Int → World → Prop)  (R : Bool → World → Prop)  :
    (
  Bm t54 (
    R true w) (
    N1 w0 c port (IntKind.i64.wrap (i + (1 : Int))) w)) = kstep Tryz.prog 55 Tryz.f56.results.toList (Tryz.f56.body.getD .skip) (hostlaw_World_listens.RV R) (kvc Tryz.prog 55 Tryz.f56.results.toList (Tryz.f56.body.getD .skip) (hostlaw_World_listens.RV R) [([(0, [1, 0, 1, 0, 0]), (2, [1, 0, 1, 0, 0]), (1, [0]), (0, [1, 1])], fun σ w => dP (slotOf σ 0) fun w0_ => dI .i64 (slotOf σ 1) fun c_ => dI .i64 (slotOf σ 2) fun port_ => dI .i64 (slotOf σ 7) fun i_ => N1 w0_ c_ port_ i_ w)] 2000) [(0, [1, 0, 1, 0, 0, 1, 0, 0, 1, 1]), (1, [1]), (0, [1, 0, 1, 0, 0, 1, 1]), (2, [1, 0, 1, 0, 0]), (1, [0]), (0, [1, 1])] [(0, .pointer w0), (1, .int .i64 c), (2, .int .i64 port), (7, .int .i64 i), (54, .bool t54)] w := by kernel_rfl
theorem hostlaw_World_listens.B2_sound {R : Bool → World → Prop} {N1 : Option Addr → Int → Int → Int → World → Prop} (hN1 : ∀ w0 c port i w, N1 w0 c port i w → KW Tryz.prog 56 55 (hostlaw_World_listens.RV R) ([(0, [1, 0, 1, 0, 0]), (2, [1, 0, 1, 0, 0]), (1, [0]), (0, [1, 1])].map (toItem (Tryz.f56.body.getD .skip))) [(0, .pointer w0), (1, .int .i64 c), (2, .int .i64 port), (7, .int .i64 i)] w) (w0 : Option Addr) (c port i : Int) (t54 : Bool) (w : World) (h : hostlaw_World_listens.B2 w0 c port i t54 w N1  R) :
    KW Tryz.prog 56 55 (hostlaw_World_listens.RV R) ([(0, [1, 0, 1, 0, 0, 1, 0, 0, 1, 1]), (1, [1]), (0, [1, 0, 1, 0, 0, 1, 1]), (2, [1, 0, 1, 0, 0]), (1, [0]), (0, [1, 1])].map (toItem (Tryz.f56.body.getD .skip))) [(0, .pointer w0), (1, .int .i64 c), (2, .int .i64 port), (7, .int .i64 i), (54, .bool t54)] w := by
  exact block_spec Tryz.func56 Tryz.mixed (stops_cons (fun σ w h => by
      obtain ⟨w0_, e0, h⟩ := dP_elim h
      obtain ⟨c_, e1, h⟩ := dI_elim h
      obtain ⟨port_, e2, h⟩ := dI_elim h
      obtain ⟨i_, e3, h⟩ := dI_elim h
      exact (hN1 w0_ c_ port_ i_ w h).weaken (Sub.cons (Sub.cons (Sub.cons (Sub.cons (Sub.nil _) e3) e2) e1) e0)) stops_nil) (Eq.mp (hostlaw_World_listens.B2_eq w0 c port i t54 w N1  R ) h)
def hostlaw_World_listens.B1 (w0 : Option Addr) (c port i : Int) (s : Nat) (e : Int) (w : World) (N1 : Option Addr → Int → Int → Int → World → Prop)  (R : Bool → World → Prop) : Prop :=
  Bm (e == (0 : Int)) (
    LdI .i64 ⟨s, 1, none⟩ w fun x45 =>
    Bm (x45 == (1 : Int)) (
      LdI .i64 ⟨s, 2, none⟩ w fun x51 =>
      hostlaw_World_listens.B2 w0 c port i (x51 == port) w N1 R) (
      hostlaw_World_listens.B2 w0 c port i false w N1 R)) (
    hostlaw_World_listens.B2 w0 c port i false w N1 R)
theorem hostlaw_World_listens.B1_eq (w0 : Option Addr) (c port i : Int) (s : Nat) (e : Int) (w : World) (N1 : Option Addr → Int → Int → Int → World → Prop)  (R : Bool → World → Prop) (sB2 : Option Addr → Int → Int → Int → Bool → World → Prop) :
    (
  Bm (e == (0 : Int)) (
    LdI .i64 ⟨s, 1, none⟩ w fun x45 =>
    Bm (x45 == (1 : Int)) (
      LdI .i64 ⟨s, 2, none⟩ w fun x51 =>
      sB2 w0 c port i (x51 == port) w) (
      sB2 w0 c port i false w)) (
    sB2 w0 c port i false w)) = kstep Tryz.prog 55 Tryz.f56.results.toList (Tryz.f56.body.getD .skip) (hostlaw_World_listens.RV R) (kvc Tryz.prog 55 Tryz.f56.results.toList (Tryz.f56.body.getD .skip) (hostlaw_World_listens.RV R) [([(0, [1, 0, 1, 0, 0, 1, 0, 0, 1, 1]), (1, [1]), (0, [1, 0, 1, 0, 0, 1, 1]), (2, [1, 0, 1, 0, 0]), (1, [0]), (0, [1, 1])], fun σ w => dP (slotOf σ 0) fun w0_ => dI .i64 (slotOf σ 1) fun c_ => dI .i64 (slotOf σ 2) fun port_ => dI .i64 (slotOf σ 7) fun i_ => dB (slotOf σ 54) fun t54_ => sB2 w0_ c_ port_ i_ t54_ w)] 2000) [(0, [1, 0, 1, 0, 0, 1, 0, 0, 1]), (1, [1]), (0, [1, 0, 1, 0, 0, 1, 1]), (2, [1, 0, 1, 0, 0]), (1, [0]), (0, [1, 1])] [(0, .pointer w0), (1, .int .i64 c), (2, .int .i64 port), (7, .int .i64 i), (8, .pointer (some ⟨s, 0, none⟩)), (9, .int .i64 e)] w := by kernel_rfl
theorem hostlaw_World_listens.B1_sound {R : Bool → World → Prop} {N1 : Option Addr → Int → Int → Int → World → Prop} (hN1 : ∀ w0 c port i w, N1 w0 c port i w → KW Tryz.prog 56 55 (hostlaw_World_listens.RV R) ([(0, [1, 0, 1, 0, 0]), (2, [1, 0, 1, 0, 0]), (1, [0]), (0, [1, 1])].map (toItem (Tryz.f56.body.getD .skip))) [(0, .pointer w0), (1, .int .i64 c), (2, .int .i64 port), (7, .int .i64 i)] w) (w0 : Option Addr) (c port i : Int) (s : Nat) (e : Int) (w : World) (h : hostlaw_World_listens.B1 w0 c port i s e w N1  R) :
    KW Tryz.prog 56 55 (hostlaw_World_listens.RV R) ([(0, [1, 0, 1, 0, 0, 1, 0, 0, 1]), (1, [1]), (0, [1, 0, 1, 0, 0, 1, 1]), (2, [1, 0, 1, 0, 0]), (1, [0]), (0, [1, 1])].map (toItem (Tryz.f56.body.getD .skip))) [(0, .pointer w0), (1, .int .i64 c), (2, .int .i64 port), (7, .int .i64 i), (8, .pointer (some ⟨s, 0, none⟩)), (9, .int .i64 e)] w := by
  exact block_spec Tryz.func56 Tryz.mixed (stops_cons (fun σ w h => by
      obtain ⟨w0_, e0, h⟩ := dP_elim h
      obtain ⟨c_, e1, h⟩ := dI_elim h
      obtain ⟨port_, e2, h⟩ := dI_elim h
      obtain ⟨i_, e3, h⟩ := dI_elim h
      obtain ⟨t54_, e4, h⟩ := dB_elim h
      exact (hostlaw_World_listens.B2_sound hN1 w0_ c_ port_ i_ t54_ w h).weaken (Sub.cons (Sub.cons (Sub.cons (Sub.cons (Sub.cons (Sub.nil _) e4) e3) e2) e1) e0)) stops_nil) (Eq.mp (hostlaw_World_listens.B1_eq w0 c port i s e w N1  R (fun w0_ c_ port_ i_ t54_ w => hostlaw_World_listens.B2 w0_ c_ port_ i_ t54_ w N1 R)) h)
def hostlaw_World_listens.L1b (w0 : Option Addr) (c port i : Int) (w : World)  (N1 : Option Addr → Int → Int → Int → World → Prop) (R : Bool → World → Prop) : Prop :=
  Pn w0 fun a =>
  (0 ≤ c ∧ c < ((3 : Nat) : Int)) ∧
  LdL (Addr.add (a.add 34) (c.toNat * 1)) w fun x16_b x16_l x16_c =>
  Bm (decide (i < ((x16_l : Nat) : Int))) (
    Pn w0 fun a_1 =>
    (0 ≤ c ∧ c < ((3 : Nat) : Int)) ∧
    LdP (Addr.add a_1 (c.toNat * 1)) w.drew fun x27 =>
    Pn w0 fun a_2 =>
    (0 ≤ c ∧ c < ((3 : Nat) : Int)) ∧
    LdL (Addr.add (a_2.add 34) (c.toNat * 1)) w.drew fun x33_b x33_l x33_c =>
    Pn x33_b fun a_3 =>
    (0 ≤ i ∧ i < ((x33_l : Nat) : Int)) ∧
    LdI .i64 (Addr.add a_3 (i.toNat * 1)) w.drew fun x36 =>
    ((
      host_Host_Info.Call x27 x36 w.drew fun r37_0_0 r37_0_1 r37_0_2 r37_0_3 r37_0_4 r37_0_5 r37_0_6 r37_0_7 r37_0_8 r37_1 w1 =>
      New (.cells #[.int .i64 (0 : Int), .int .i64 (0 : Int), .int .i64 (0 : Int), .int .i64 (0 : Int), .int .i64 (0 : Int), .int .i64 (0 : Int), .int .i64 (0 : Int), .bool false, .pointer none] 69) w1 fun s_ w2 =>
      Sts [.int .i64 r37_0_0, .int .i64 r37_0_1, .int .i64 r37_0_2, .int .i64 r37_0_3, .int .i64 r37_0_4, .int .i64 r37_0_5, .int .i64 r37_0_6, .bool r37_0_7, .pointer r37_0_8] ⟨s_, 0, none⟩ 0 w2 fun w3 =>
      hostlaw_World_listens.B1 w0 c port i s_ r37_1 w3 N1 R) ∧ (
      New (.cells #[.int .i64 (0 : Int), .int .i64 (0 : Int), .int .i64 (0 : Int), .int .i64 (0 : Int), .int .i64 (0 : Int), .int .i64 (0 : Int), .int .i64 (0 : Int), .bool false, .pointer none] 69) w.drew fun s__1 w4 =>
      w4.cell? (Addr.add a_3 (i.toNat * 1)) = some (.int .i64 x36) ∧
      w4.cell? (Addr.add (a_2.add 34) (c.toNat * 1)) = some (.slice x33_b x33_l x33_c) ∧
      w4.cell? (Addr.add a_1 (c.toNat * 1)) = some (.pointer x27) ∧
      host_Host_Info.Call x27 x36 w4 fun r37_0_0_1 r37_0_1_1 r37_0_2_1 r37_0_3_1 r37_0_4_1 r37_0_5_1 r37_0_6_1 r37_0_7_1 r37_0_8_1 r37_1_1 w5 =>
      Sts [.int .i64 r37_0_0_1, .int .i64 r37_0_1_1, .int .i64 r37_0_2_1, .int .i64 r37_0_3_1, .int .i64 r37_0_4_1, .int .i64 r37_0_5_1, .int .i64 r37_0_6_1, .bool r37_0_7_1, .pointer r37_0_8_1] ⟨s__1, 0, none⟩ 0 w5 fun w6 =>
      hostlaw_World_listens.B1 w0 c port i s__1 r37_1_1 w6 N1 R))) (
    R false w)
theorem hostlaw_World_listens.L1b_eq (w0 : Option Addr) (c port i : Int) (w : World)  (N1 : Option Addr → Int → Int → Int → World → Prop) (R : Bool → World → Prop) (sB1 : Option Addr → Int → Int → Int → Nat → Int → World → Prop) :
    (
  Pn w0 fun a =>
  (0 ≤ c ∧ c < ((3 : Nat) : Int)) ∧
  LdL (Addr.add (a.add 34) (c.toNat * 1)) w fun x16_b x16_l x16_c =>
  Bm (decide (i < ((x16_l : Nat) : Int))) (
    Pn w0 fun a_1 =>
    (0 ≤ c ∧ c < ((3 : Nat) : Int)) ∧
    LdP (Addr.add a_1 (c.toNat * 1)) w.drew fun x27 =>
    Pn w0 fun a_2 =>
    (0 ≤ c ∧ c < ((3 : Nat) : Int)) ∧
    LdL (Addr.add (a_2.add 34) (c.toNat * 1)) w.drew fun x33_b x33_l x33_c =>
    Pn x33_b fun a_3 =>
    (0 ≤ i ∧ i < ((x33_l : Nat) : Int)) ∧
    LdI .i64 (Addr.add a_3 (i.toNat * 1)) w.drew fun x36 =>
    ((
      host_Host_Info.Call x27 x36 w.drew fun r37_0_0 r37_0_1 r37_0_2 r37_0_3 r37_0_4 r37_0_5 r37_0_6 r37_0_7 r37_0_8 r37_1 w1 =>
      New (.cells #[.int .i64 (0 : Int), .int .i64 (0 : Int), .int .i64 (0 : Int), .int .i64 (0 : Int), .int .i64 (0 : Int), .int .i64 (0 : Int), .int .i64 (0 : Int), .bool false, .pointer none] 69) w1 fun s_ w2 =>
      Sts [.int .i64 r37_0_0, .int .i64 r37_0_1, .int .i64 r37_0_2, .int .i64 r37_0_3, .int .i64 r37_0_4, .int .i64 r37_0_5, .int .i64 r37_0_6, .bool r37_0_7, .pointer r37_0_8] ⟨s_, 0, none⟩ 0 w2 fun w3 =>
      sB1 w0 c port i s_ r37_1 w3) ∧ (
      New (.cells #[.int .i64 (0 : Int), .int .i64 (0 : Int), .int .i64 (0 : Int), .int .i64 (0 : Int), .int .i64 (0 : Int), .int .i64 (0 : Int), .int .i64 (0 : Int), .bool false, .pointer none] 69) w.drew fun s__1 w4 =>
      w4.cell? (Addr.add a_3 (i.toNat * 1)) = some (.int .i64 x36) ∧
      w4.cell? (Addr.add (a_2.add 34) (c.toNat * 1)) = some (.slice x33_b x33_l x33_c) ∧
      w4.cell? (Addr.add a_1 (c.toNat * 1)) = some (.pointer x27) ∧
      host_Host_Info.Call x27 x36 w4 fun r37_0_0_1 r37_0_1_1 r37_0_2_1 r37_0_3_1 r37_0_4_1 r37_0_5_1 r37_0_6_1 r37_0_7_1 r37_0_8_1 r37_1_1 w5 =>
      Sts [.int .i64 r37_0_0_1, .int .i64 r37_0_1_1, .int .i64 r37_0_2_1, .int .i64 r37_0_3_1, .int .i64 r37_0_4_1, .int .i64 r37_0_5_1, .int .i64 r37_0_6_1, .bool r37_0_7_1, .pointer r37_0_8_1] ⟨s__1, 0, none⟩ 0 w5 fun w6 =>
      sB1 w0 c port i s__1 r37_1_1 w6))) (
    R false w)) = kstep Tryz.prog 55 Tryz.f56.results.toList (Tryz.f56.body.getD .skip) (hostlaw_World_listens.RV R) (kvc Tryz.prog 55 Tryz.f56.results.toList (Tryz.f56.body.getD .skip) (hostlaw_World_listens.RV R) [([(0, [1, 0, 1, 0, 0, 1, 0, 0, 1]), (1, [1]), (0, [1, 0, 1, 0, 0, 1, 1]), (2, [1, 0, 1, 0, 0]), (1, [0]), (0, [1, 1])], fun σ w => dP (slotOf σ 0) fun w0_ => dI .i64 (slotOf σ 1) fun c_ => dI .i64 (slotOf σ 2) fun port_ => dI .i64 (slotOf σ 7) fun i_ => dK (slotOf σ 8) fun s_ => dI .i64 (slotOf σ 9) fun e_ => sB1 w0_ c_ port_ i_ s_ e_ w)] 2000) [(0, [1, 0, 1, 0, 0]), (2, [1, 0, 1, 0, 0]), (1, [0]), (0, [1, 1])] [(0, .pointer w0), (1, .int .i64 c), (2, .int .i64 port), (7, .int .i64 i)] w := by kernel_rfl
theorem hostlaw_World_listens.L1b_sound {R : Bool → World → Prop} {N1 : Option Addr → Int → Int → Int → World → Prop} (hN1 : ∀ w0 c port i w, N1 w0 c port i w → KW Tryz.prog 56 55 (hostlaw_World_listens.RV R) ([(0, [1, 0, 1, 0, 0]), (2, [1, 0, 1, 0, 0]), (1, [0]), (0, [1, 1])].map (toItem (Tryz.f56.body.getD .skip))) [(0, .pointer w0), (1, .int .i64 c), (2, .int .i64 port), (7, .int .i64 i)] w) (w0 : Option Addr) (c port i : Int) (w : World) (h : hostlaw_World_listens.L1b w0 c port i w  N1 R) :
    KW Tryz.prog 56 55 (hostlaw_World_listens.RV R) ([(0, [1, 0, 1, 0, 0]), (2, [1, 0, 1, 0, 0]), (1, [0]), (0, [1, 1])].map (toItem (Tryz.f56.body.getD .skip))) [(0, .pointer w0), (1, .int .i64 c), (2, .int .i64 port), (7, .int .i64 i)] w := by
  exact block_spec Tryz.func56 Tryz.mixed (stops_cons (fun σ w h => by
      obtain ⟨w0_, e0, h⟩ := dP_elim h
      obtain ⟨c_, e1, h⟩ := dI_elim h
      obtain ⟨port_, e2, h⟩ := dI_elim h
      obtain ⟨i_, e3, h⟩ := dI_elim h
      obtain ⟨s_, e4, h⟩ := dK_elim h
      obtain ⟨e_, e5, h⟩ := dI_elim h
      exact (hostlaw_World_listens.B1_sound hN1 w0_ c_ port_ i_ s_ e_ w h).weaken (Sub.cons (Sub.cons (Sub.cons (Sub.cons (Sub.cons (Sub.cons (Sub.nil _) e5) e4) e3) e2) e1) e0)) stops_nil) (Eq.mp (hostlaw_World_listens.L1b_eq w0 c port i w  N1 R (fun w0_ c_ port_ i_ s_ e_ w => hostlaw_World_listens.B1 w0_ c_ port_ i_ s_ e_ w N1 R)) h)
def hostlaw_World_listens.L1 (w0 : Option Addr) (c port i : Int) (w : World)  (R : Bool → World → Prop) : Prop :=
  ∃ (I : Nat → Option Addr → Int → Int → Int → World → Prop) (m : Nat), I m w0 c port i w ∧ ∀ m w0 c port i w, I m w0 c port i w → hostlaw_World_listens.L1b w0 c port i w  (fun w0' c' port' i' w' => ∃ m', m' < m ∧ I m' w0' c' port' i' w') R
theorem hostlaw_World_listens.L1_sound {R : Bool → World → Prop}  (w0 : Option Addr) (c port i : Int) (w : World) (h : hostlaw_World_listens.L1 w0 c port i w  R) :
    KW Tryz.prog 56 55 (hostlaw_World_listens.RV R) ([(0, [1, 0, 1, 0, 0]), (2, [1, 0, 1, 0, 0]), (1, [0]), (0, [1, 1])].map (toItem (Tryz.f56.body.getD .skip))) [(0, .pointer w0), (1, .int .i64 c), (2, .int .i64 port), (7, .int .i64 i)] w := by
  obtain ⟨I, m, hBase, hr⟩ := h
  refine KW.loop (fun m σ w => ∃ (w0 : Option Addr) (c port i : Int), σ = [(0, .pointer w0), (1, .int .i64 c), (2, .int .i64 port), (7, .int .i64 i)] ∧ I m w0 c port i w) ?_ m _ w ⟨w0, c, port, i, rfl, hBase⟩
  rintro m ih σ w ⟨w0, c, port, i, rfl, hI⟩
  exact hostlaw_World_listens.L1b_sound  (N1 := fun w0' c' port' i' w' => ∃ m', m' < m ∧ I m' w0' c' port' i' w') (fun w0' c' port' i' w' hx => by obtain ⟨m', hlt, hI'⟩ := hx; exact ih m' hlt _ w' ⟨w0', c', port', i', rfl, hI'⟩) w0 c port i w (hr m w0 c port i w hI)
def hostlaw_World_listens.B0 (w0 : Option Addr) (c port : Int) (w : World)   (R : Bool → World → Prop) : Prop :=
  hostlaw_World_listens.L1 w0 c port (0 : Int) w  R
theorem hostlaw_World_listens.B0_eq (w0 : Option Addr) (c port : Int) (w : World)   (R : Bool → World → Prop) (sL1 : Option Addr → Int → Int → Int → World → Prop) :
    (
  sL1 w0 c port (0 : Int) w) = kstep Tryz.prog 55 Tryz.f56.results.toList (Tryz.f56.body.getD .skip) (hostlaw_World_listens.RV R) (kvc Tryz.prog 55 Tryz.f56.results.toList (Tryz.f56.body.getD .skip) (hostlaw_World_listens.RV R) [([(0, [1, 0, 1, 0, 0]), (2, [1, 0, 1, 0, 0]), (1, [0]), (0, [1, 1])], fun σ w => dP (slotOf σ 0) fun w0_ => dI .i64 (slotOf σ 1) fun c_ => dI .i64 (slotOf σ 2) fun port_ => dI .i64 (slotOf σ 7) fun i_ => sL1 w0_ c_ port_ i_ w)] 2000) [(0, [])] [(0, .pointer w0), (1, .int .i64 c), (2, .int .i64 port)] w := by kernel_rfl
theorem hostlaw_World_listens.B0_sound {R : Bool → World → Prop}  (w0 : Option Addr) (c port : Int) (w : World) (h : hostlaw_World_listens.B0 w0 c port w   R) :
    KW Tryz.prog 56 55 (hostlaw_World_listens.RV R) ([(0, [])].map (toItem (Tryz.f56.body.getD .skip))) [(0, .pointer w0), (1, .int .i64 c), (2, .int .i64 port)] w := by
  exact block_spec Tryz.func56 Tryz.mixed (stops_cons (fun σ w h => by
      obtain ⟨w0_, e0, h⟩ := dP_elim h
      obtain ⟨c_, e1, h⟩ := dI_elim h
      obtain ⟨port_, e2, h⟩ := dI_elim h
      obtain ⟨i_, e3, h⟩ := dI_elim h
      exact (hostlaw_World_listens.L1_sound  w0_ c_ port_ i_ w h).weaken (Sub.cons (Sub.cons (Sub.cons (Sub.cons (Sub.nil _) e3) e2) e1) e0)) stops_nil) (Eq.mp (hostlaw_World_listens.B0_eq w0 c port w   R (fun w0_ c_ port_ i_ w => hostlaw_World_listens.L1 w0_ c_ port_ i_ w  R)) h)
theorem hostlaw_World_listens.sound (w0 : Option Addr) (c port : Int) (w : World) (R : Bool → World → Prop) (h : hostlaw_World_listens.B0 w0 c port w R) : hostlaw_World_listens.Call w0 c port w R := by
  have hc := calls_of_block (args := #[.pointer w0, .int .i64 c, .int .i64 port]) Tryz.func56 (body := (Tryz.f56.body.getD .skip)) (by kernel_rfl) (by kernel_rfl) (args_slot _) (hostlaw_World_listens.B0_sound w0 c port w h)
  exact hc.mono fun e w' he => by
    obtain ⟨v, rfl, hv⟩ := he
    exact hostlaw_World_listens.RV_elim hv
end Go.Proofs.Qxb6500424aGreat
