import Derived.Test.Qxb6500424aGreatSig
set_option maxRecDepth 100000
set_option linter.unusedVariables false
open Go.Vc
namespace Go.Proofs.Qxb6500424aGreat
def hostlaw_World_Step.B2 (w0 : Option Addr) (ok : Bool) (w : World)   (R : Bool → World → Prop) : Prop :=
  Bm ok (
    hostlaw_World_Look.Call w0 w fun r146 w1 =>
    R r146 w1) (
    R false w)
theorem hostlaw_World_Step.B2_eq (w0 : Option Addr) (ok : Bool) (w : World)   (R : Bool → World → Prop)  :
    (
  Bm ok (
    hostlaw_World_Look.Call w0 w fun r146 w1 =>
    R r146 w1) (
    R false w)) = kstep Tryz.prog 148 Tryz.f15.results.toList (Tryz.f15.body.getD .skip) (hostlaw_World_Step.RV R) (kvc Tryz.prog 148 Tryz.f15.results.toList (Tryz.f15.body.getD .skip) (hostlaw_World_Step.RV R) [] 2000) [(0, [1, 1, 1, 1, 1])] [(0, .pointer w0), (7, .bool ok)] w := by kernel_rfl
theorem hostlaw_World_Step.B2_sound {R : Bool → World → Prop}  (w0 : Option Addr) (ok : Bool) (w : World) (h : hostlaw_World_Step.B2 w0 ok w   R) :
    KW Tryz.prog 15 148 (hostlaw_World_Step.RV R) ([(0, [1, 1, 1, 1, 1])].map (toItem (Tryz.f15.body.getD .skip))) [(0, .pointer w0), (7, .bool ok)] w := by
  exact block_spec Tryz.func15 Tryz.mixed stops_nil (Eq.mp (hostlaw_World_Step.B2_eq w0 ok w   R ) h)
def hostlaw_World_Step.B3 (w0 : Option Addr) (o : Nat) (t132 : Bool) (w : World)   (R : Bool → World → Prop) : Prop :=
  Bm t132 (
    LdI .i64 ⟨o, 3, none⟩ w fun x140 =>
    LdI .i64 ⟨o, 0, none⟩ w fun x141_0 =>
    LdI .i64 ⟨o, 1, none⟩ w fun x141_1 =>
    LdI .i64 ⟨o, 2, none⟩ w fun x141_2 =>
    LdI .i64 ⟨o, 3, none⟩ w fun x141_3 =>
    LdS ⟨o, 4, none⟩ w fun x141_4 =>
    LdS ⟨o, 5, none⟩ w fun x141_5 =>
    hostlaw_World_Observe.Call w0 x140 x141_0 x141_1 x141_2 x141_3 x141_4 x141_5 w fun r142 w1 =>
    R r142 w1) (
    R true w)
theorem hostlaw_World_Step.B3_eq (w0 : Option Addr) (o : Nat) (t132 : Bool) (w : World)   (R : Bool → World → Prop)  :
    (
  Bm t132 (
    LdI .i64 ⟨o, 3, none⟩ w fun x140 =>
    LdI .i64 ⟨o, 0, none⟩ w fun x141_0 =>
    LdI .i64 ⟨o, 1, none⟩ w fun x141_1 =>
    LdI .i64 ⟨o, 2, none⟩ w fun x141_2 =>
    LdI .i64 ⟨o, 3, none⟩ w fun x141_3 =>
    LdS ⟨o, 4, none⟩ w fun x141_4 =>
    LdS ⟨o, 5, none⟩ w fun x141_5 =>
    hostlaw_World_Observe.Call w0 x140 x141_0 x141_1 x141_2 x141_3 x141_4 x141_5 w fun r142 w1 =>
    R r142 w1) (
    R true w)) = kstep Tryz.prog 148 Tryz.f15.results.toList (Tryz.f15.body.getD .skip) (hostlaw_World_Step.RV R) (kvc Tryz.prog 148 Tryz.f15.results.toList (Tryz.f15.body.getD .skip) (hostlaw_World_Step.RV R) [] 2000) [(0, [1, 1, 1, 1, 0, 1, 0, 1, 1, 1, 1, 1, 1, 1, 1, 1, 1, 1, 1, 1, 1, 1]), (1, [1]), (0, [1, 1, 1, 1, 1])] [(0, .pointer w0), (4, .pointer (some ⟨o, 0, none⟩)), (132, .bool t132)] w := by kernel_rfl
theorem hostlaw_World_Step.B3_sound {R : Bool → World → Prop}  (w0 : Option Addr) (o : Nat) (t132 : Bool) (w : World) (h : hostlaw_World_Step.B3 w0 o t132 w   R) :
    KW Tryz.prog 15 148 (hostlaw_World_Step.RV R) ([(0, [1, 1, 1, 1, 0, 1, 0, 1, 1, 1, 1, 1, 1, 1, 1, 1, 1, 1, 1, 1, 1, 1]), (1, [1]), (0, [1, 1, 1, 1, 1])].map (toItem (Tryz.f15.body.getD .skip))) [(0, .pointer w0), (4, .pointer (some ⟨o, 0, none⟩)), (132, .bool t132)] w := by
  exact block_spec Tryz.func15 Tryz.mixed stops_nil (Eq.mp (hostlaw_World_Step.B3_eq w0 o t132 w   R ) h)
def hostlaw_World_Step.B1 (w0 : Option Addr) (o : Nat) (t66 : Bool) (w : World)   (R : Bool → World → Prop) : Prop :=
  Bm t66 (
    R true w) (
    LdI .i64 ⟨o, 0, none⟩ w fun x68 =>
    Bm (x68 == (1 : Int)) (
      LdI .i64 ⟨o, 3, none⟩ w fun x73 =>
      LdI .i64 ⟨o, 1, none⟩ w fun x75 =>
      hostlaw_World_Listen.Call w0 x73 x75 w fun r76 w1 =>
      hostlaw_World_Step.B2 w0 r76 w1  R) (
      Bm (x68 == (2 : Int)) (
        LdI .i64 ⟨o, 3, none⟩ w fun x81 =>
        LdI .i64 ⟨o, 1, none⟩ w fun x83 =>
        LdI .i64 ⟨o, 2, none⟩ w fun x85 =>
        hostlaw_World_Connect.Call w0 x81 x83 x85 w fun r86 w2 =>
        hostlaw_World_Step.B2 w0 r86 w2  R) (
        Bm (x68 == (3 : Int)) (
          LdI .i64 ⟨o, 3, none⟩ w fun x91 =>
          LdI .i64 ⟨o, 1, none⟩ w fun x93 =>
          hostlaw_World_Accept.Call w0 x91 x93 w fun r94 w3 =>
          hostlaw_World_Step.B2 w0 r94 w3  R) (
          Bm (x68 == (4 : Int)) (
            LdI .i64 ⟨o, 3, none⟩ w fun x99 =>
            LdI .i64 ⟨o, 1, none⟩ w fun x101 =>
            LdS ⟨o, 4, none⟩ w fun x103 =>
            ToBytes 5 x103 w fun b104 c104 w4 =>
            hostlaw_World_Send.Call w0 x99 x101 (some ⟨b104, 0, none⟩) x103.size c104 w4 fun r105 w5 =>
            hostlaw_World_Step.B2 w0 r105 w5  R) (
            Bm (x68 == (5 : Int)) (
              LdI .i64 ⟨o, 3, none⟩ w fun x110 =>
              LdI .i64 ⟨o, 1, none⟩ w fun x112 =>
              LdI .i64 ⟨o, 2, none⟩ w fun x114 =>
              hostlaw_World_Recv.Call w0 x110 x112 x114 w fun r115 w6 =>
              hostlaw_World_Step.B2 w0 r115 w6  R) (
              Bm (x68 == (6 : Int)) (
                LdI .i64 ⟨o, 3, none⟩ w fun x120 =>
                LdI .i64 ⟨o, 1, none⟩ w fun x122 =>
                hostlaw_World_End.Call w0 x120 x122 false w fun r123 w7 =>
                hostlaw_World_Step.B2 w0 r123 w7  R) (
                Bm (x68 == (7 : Int)) (
                  LdI .i64 ⟨o, 3, none⟩ w fun x128 =>
                  LdI .i64 ⟨o, 1, none⟩ w fun x130 =>
                  hostlaw_World_End.Call w0 x128 x130 true w fun r131 w8 =>
                  hostlaw_World_Step.B2 w0 r131 w8  R) (
                  Bm (x68 == (8 : Int)) (
                    hostlaw_World_Step.B3 w0 o (x68 == (8 : Int)) w  R) (
                    Bm (x68 == (9 : Int)) (
                      hostlaw_World_Step.B3 w0 o (x68 == (9 : Int)) w  R) (
                      Bm (x68 == (16 : Int)) (
                        hostlaw_World_Step.B3 w0 o (x68 == (16 : Int)) w  R) (
                        Bm (x68 == (17 : Int)) (
                          hostlaw_World_Step.B3 w0 o (x68 == (17 : Int)) w  R) (
                          hostlaw_World_Step.B3 w0 o (x68 == (18 : Int)) w  R))))))))))))
theorem hostlaw_World_Step.B1_eq (w0 : Option Addr) (o : Nat) (t66 : Bool) (w : World)   (R : Bool → World → Prop) (sB2 : Option Addr → Bool → World → Prop) (sB3 : Option Addr → Nat → Bool → World → Prop) :
    (
  Bm t66 (
    R true w) (
    LdI .i64 ⟨o, 0, none⟩ w fun x68 =>
    Bm (x68 == (1 : Int)) (
      LdI .i64 ⟨o, 3, none⟩ w fun x73 =>
      LdI .i64 ⟨o, 1, none⟩ w fun x75 =>
      hostlaw_World_Listen.Call w0 x73 x75 w fun r76 w1 =>
      sB2 w0 r76 w1) (
      Bm (x68 == (2 : Int)) (
        LdI .i64 ⟨o, 3, none⟩ w fun x81 =>
        LdI .i64 ⟨o, 1, none⟩ w fun x83 =>
        LdI .i64 ⟨o, 2, none⟩ w fun x85 =>
        hostlaw_World_Connect.Call w0 x81 x83 x85 w fun r86 w2 =>
        sB2 w0 r86 w2) (
        Bm (x68 == (3 : Int)) (
          LdI .i64 ⟨o, 3, none⟩ w fun x91 =>
          LdI .i64 ⟨o, 1, none⟩ w fun x93 =>
          hostlaw_World_Accept.Call w0 x91 x93 w fun r94 w3 =>
          sB2 w0 r94 w3) (
          Bm (x68 == (4 : Int)) (
            LdI .i64 ⟨o, 3, none⟩ w fun x99 =>
            LdI .i64 ⟨o, 1, none⟩ w fun x101 =>
            LdS ⟨o, 4, none⟩ w fun x103 =>
            ToBytes 5 x103 w fun b104 c104 w4 =>
            hostlaw_World_Send.Call w0 x99 x101 (some ⟨b104, 0, none⟩) x103.size c104 w4 fun r105 w5 =>
            sB2 w0 r105 w5) (
            Bm (x68 == (5 : Int)) (
              LdI .i64 ⟨o, 3, none⟩ w fun x110 =>
              LdI .i64 ⟨o, 1, none⟩ w fun x112 =>
              LdI .i64 ⟨o, 2, none⟩ w fun x114 =>
              hostlaw_World_Recv.Call w0 x110 x112 x114 w fun r115 w6 =>
              sB2 w0 r115 w6) (
              Bm (x68 == (6 : Int)) (
                LdI .i64 ⟨o, 3, none⟩ w fun x120 =>
                LdI .i64 ⟨o, 1, none⟩ w fun x122 =>
                hostlaw_World_End.Call w0 x120 x122 false w fun r123 w7 =>
                sB2 w0 r123 w7) (
                Bm (x68 == (7 : Int)) (
                  LdI .i64 ⟨o, 3, none⟩ w fun x128 =>
                  LdI .i64 ⟨o, 1, none⟩ w fun x130 =>
                  hostlaw_World_End.Call w0 x128 x130 true w fun r131 w8 =>
                  sB2 w0 r131 w8) (
                  Bm (x68 == (8 : Int)) (
                    sB3 w0 o (x68 == (8 : Int)) w) (
                    Bm (x68 == (9 : Int)) (
                      sB3 w0 o (x68 == (9 : Int)) w) (
                      Bm (x68 == (16 : Int)) (
                        sB3 w0 o (x68 == (16 : Int)) w) (
                        Bm (x68 == (17 : Int)) (
                          sB3 w0 o (x68 == (17 : Int)) w) (
                          sB3 w0 o (x68 == (18 : Int)) w))))))))))))) = kstep Tryz.prog 148 Tryz.f15.results.toList (Tryz.f15.body.getD .skip) (hostlaw_World_Step.RV R) (kvc Tryz.prog 148 Tryz.f15.results.toList (Tryz.f15.body.getD .skip) (hostlaw_World_Step.RV R) [([(0, [1, 1, 1, 1, 1])], fun σ w => dP (slotOf σ 0) fun w0_ => dB (slotOf σ 7) fun ok_ => sB2 w0_ ok_ w),
    ([(0, [1, 1, 1, 1, 0, 1, 0, 1, 1, 1, 1, 1, 1, 1, 1, 1, 1, 1, 1, 1, 1, 1]), (1, [1]), (0, [1, 1, 1, 1, 1])], fun σ w => dP (slotOf σ 0) fun w0_ => dK (slotOf σ 4) fun o_ => dB (slotOf σ 132) fun t132_ => sB3 w0_ o_ t132_ w)] 2000) [(0, [1, 1, 0, 1]), (0, [1, 1, 1])] [(0, .pointer w0), (4, .pointer (some ⟨o, 0, none⟩)), (66, .bool t66)] w := by kernel_rfl
theorem hostlaw_World_Step.B1_sound {R : Bool → World → Prop}  (w0 : Option Addr) (o : Nat) (t66 : Bool) (w : World) (h : hostlaw_World_Step.B1 w0 o t66 w   R) :
    KW Tryz.prog 15 148 (hostlaw_World_Step.RV R) ([(0, [1, 1, 0, 1]), (0, [1, 1, 1])].map (toItem (Tryz.f15.body.getD .skip))) [(0, .pointer w0), (4, .pointer (some ⟨o, 0, none⟩)), (66, .bool t66)] w := by
  exact block_spec Tryz.func15 Tryz.mixed (stops_cons (fun σ w h => by
      obtain ⟨w0_, e0, h⟩ := dP_elim h
      obtain ⟨ok_, e1, h⟩ := dB_elim h
      exact (hostlaw_World_Step.B2_sound  w0_ ok_ w h).weaken (Sub.cons (Sub.cons (Sub.nil _) e1) e0)) (stops_cons (fun σ w h => by
      obtain ⟨w0_, e0, h⟩ := dP_elim h
      obtain ⟨o_, e1, h⟩ := dK_elim h
      obtain ⟨t132_, e2, h⟩ := dB_elim h
      exact (hostlaw_World_Step.B3_sound  w0_ o_ t132_ w h).weaken (Sub.cons (Sub.cons (Sub.cons (Sub.nil _) e2) e1) e0)) stops_nil)) (Eq.mp (hostlaw_World_Step.B1_eq w0 o t66 w   R (fun w0_ ok_ w => hostlaw_World_Step.B2 w0_ ok_ w  R) (fun w0_ o_ t132_ w => hostlaw_World_Step.B3 w0_ o_ t132_ w  R)) h)
def hostlaw_World_Step.B0 (w0 : Option Addr) (o_0 o_1 o_2 o_3 : Int) (o_4 o_5 : ByteArray) (steady : Bool) (w : World)   (R : Bool → World → Prop) : Prop :=
  New (.cells #[.int .i64 o_0, .int .i64 o_1, .int .i64 o_2, .int .i64 o_3, .string o_4, .string o_5] 32) w fun o_ w1 =>
  LdI .i64 ⟨o_, 0, none⟩ w1 fun x9 =>
  Bm (x9 == (10 : Int)) (
    LdI .i64 ⟨o_, 1, none⟩ w1 fun x14 =>
    hostlaw_World_Deliver.Call w0 x14 w1 fun r15 w2 =>
    R r15 w2) (
    Bm (x9 == (14 : Int)) (
      hostlaw_World_Tick.Call w0 w1 fun r19 w3 =>
      R r19 w3) (
      Bm (x9 == (15 : Int)) (
        hostlaw_World_Settle.Call w0 w1 fun r23 w4 =>
        R r23 w4) (
        Bm (x9 == (11 : Int)) (
          Bm (!steady) (
            Pn w0 fun a =>
            LdP (a.add 29) w1.drew fun x31 =>
            LdI .i64 ⟨o_, 1, none⟩ w1.drew fun x33 =>
            wirem_Wire_Drop.Call x31 x33 w1.drew fun r34 w5 =>
            R true w5) (
            R true w1)) (
          Bm (x9 == (12 : Int)) (
            Bm (!steady) (
              Pn w0 fun a_1 =>
              LdP (a_1.add 29) w1.drew fun x42 =>
              LdI .i64 ⟨o_, 1, none⟩ w1.drew fun x44 =>
              wirem_Wire_Double.Call x42 x44 w1.drew fun r45 w6 =>
              R true w6) (
              R true w1)) (
            Bm (x9 == (13 : Int)) (
              Bm (!steady) (
                Pn w0 fun a_2 =>
                LdP (a_2.add 29) w1.drew fun x53 =>
                LdI .i64 ⟨o_, 1, none⟩ w1.drew fun x55 =>
                LdI .i64 ⟨o_, 2, none⟩ w1.drew fun x57 =>
                wirem_Wire_Flip.Call x53 x55 x57 w1.drew fun r58 w7 =>
                R true w7) (
                R true w1)) (
              LdI .i64 ⟨o_, 3, none⟩ w1 fun x60 =>
              Bm (decide (x60 < (0 : Int))) (
                hostlaw_World_Step.B1 w0 o_ true w1  R) (
                LdI .i64 ⟨o_, 3, none⟩ w1 fun x64 =>
                hostlaw_World_Step.B1 w0 o_ (decide (x64 ≥ (3 : Int))) w1  R)))))))
theorem hostlaw_World_Step.B0_eq (w0 : Option Addr) (o_0 o_1 o_2 o_3 : Int) (o_4 o_5 : ByteArray) (steady : Bool) (w : World)   (R : Bool → World → Prop) (sB1 : Option Addr → Nat → Bool → World → Prop) :
    (
  New (.cells #[.int .i64 o_0, .int .i64 o_1, .int .i64 o_2, .int .i64 o_3, .string o_4, .string o_5] 32) w fun o_ w1 =>
  LdI .i64 ⟨o_, 0, none⟩ w1 fun x9 =>
  Bm (x9 == (10 : Int)) (
    LdI .i64 ⟨o_, 1, none⟩ w1 fun x14 =>
    hostlaw_World_Deliver.Call w0 x14 w1 fun r15 w2 =>
    R r15 w2) (
    Bm (x9 == (14 : Int)) (
      hostlaw_World_Tick.Call w0 w1 fun r19 w3 =>
      R r19 w3) (
      Bm (x9 == (15 : Int)) (
        hostlaw_World_Settle.Call w0 w1 fun r23 w4 =>
        R r23 w4) (
        Bm (x9 == (11 : Int)) (
          Bm (!steady) (
            Pn w0 fun a =>
            LdP (a.add 29) w1.drew fun x31 =>
            LdI .i64 ⟨o_, 1, none⟩ w1.drew fun x33 =>
            wirem_Wire_Drop.Call x31 x33 w1.drew fun r34 w5 =>
            R true w5) (
            R true w1)) (
          Bm (x9 == (12 : Int)) (
            Bm (!steady) (
              Pn w0 fun a_1 =>
              LdP (a_1.add 29) w1.drew fun x42 =>
              LdI .i64 ⟨o_, 1, none⟩ w1.drew fun x44 =>
              wirem_Wire_Double.Call x42 x44 w1.drew fun r45 w6 =>
              R true w6) (
              R true w1)) (
            Bm (x9 == (13 : Int)) (
              Bm (!steady) (
                Pn w0 fun a_2 =>
                LdP (a_2.add 29) w1.drew fun x53 =>
                LdI .i64 ⟨o_, 1, none⟩ w1.drew fun x55 =>
                LdI .i64 ⟨o_, 2, none⟩ w1.drew fun x57 =>
                wirem_Wire_Flip.Call x53 x55 x57 w1.drew fun r58 w7 =>
                R true w7) (
                R true w1)) (
              LdI .i64 ⟨o_, 3, none⟩ w1 fun x60 =>
              Bm (decide (x60 < (0 : Int))) (
                sB1 w0 o_ true w1) (
                LdI .i64 ⟨o_, 3, none⟩ w1 fun x64 =>
                sB1 w0 o_ (decide (x64 ≥ (3 : Int))) w1)))))))) = kstep Tryz.prog 148 Tryz.f15.results.toList (Tryz.f15.body.getD .skip) (hostlaw_World_Step.RV R) (kvc Tryz.prog 148 Tryz.f15.results.toList (Tryz.f15.body.getD .skip) (hostlaw_World_Step.RV R) [([(0, [1, 1, 0, 1]), (0, [1, 1, 1])], fun σ w => dP (slotOf σ 0) fun w0_ => dK (slotOf σ 4) fun o_ => dB (slotOf σ 66) fun t66_ => sB1 w0_ o_ t66_ w)] 2000) [(0, [])] [(0, .pointer w0), (1, .agg #[.int .i64 o_0, .int .i64 o_1, .int .i64 o_2, .int .i64 o_3, .string o_4, .string o_5]), (2, .bool steady)] w := by kernel_rfl
theorem hostlaw_World_Step.B0_sound {R : Bool → World → Prop}  (w0 : Option Addr) (o_0 o_1 o_2 o_3 : Int) (o_4 o_5 : ByteArray) (steady : Bool) (w : World) (h : hostlaw_World_Step.B0 w0 o_0 o_1 o_2 o_3 o_4 o_5 steady w   R) :
    KW Tryz.prog 15 148 (hostlaw_World_Step.RV R) ([(0, [])].map (toItem (Tryz.f15.body.getD .skip))) [(0, .pointer w0), (1, .agg #[.int .i64 o_0, .int .i64 o_1, .int .i64 o_2, .int .i64 o_3, .string o_4, .string o_5]), (2, .bool steady)] w := by
  exact block_spec Tryz.func15 Tryz.mixed (stops_cons (fun σ w h => by
      obtain ⟨w0_, e0, h⟩ := dP_elim h
      obtain ⟨o_, e1, h⟩ := dK_elim h
      obtain ⟨t66_, e2, h⟩ := dB_elim h
      exact (hostlaw_World_Step.B1_sound  w0_ o_ t66_ w h).weaken (Sub.cons (Sub.cons (Sub.cons (Sub.nil _) e2) e1) e0)) stops_nil) (Eq.mp (hostlaw_World_Step.B0_eq w0 o_0 o_1 o_2 o_3 o_4 o_5 steady w   R (fun w0_ o_ t66_ w => hostlaw_World_Step.B1 w0_ o_ t66_ w  R)) h)
theorem hostlaw_World_Step.sound (w0 : Option Addr) (o_0 o_1 o_2 o_3 : Int) (o_4 o_5 : ByteArray) (steady : Bool) (w : World) (R : Bool → World → Prop) (h : hostlaw_World_Step.B0 w0 o_0 o_1 o_2 o_3 o_4 o_5 steady w R) : hostlaw_World_Step.Call w0 o_0 o_1 o_2 o_3 o_4 o_5 steady w R := by
  have hc := calls_of_block (args := #[.pointer w0, .agg #[.int .i64 o_0, .int .i64 o_1, .int .i64 o_2, .int .i64 o_3, .string o_4, .string o_5], .bool steady]) Tryz.func15 (body := (Tryz.f15.body.getD .skip)) (by kernel_rfl) (by kernel_rfl) (args_slot _) (hostlaw_World_Step.B0_sound w0 o_0 o_1 o_2 o_3 o_4 o_5 steady w h)
  exact hc.mono fun e w' he => by
    obtain ⟨v, rfl, hv⟩ := he
    exact hostlaw_World_Step.RV_elim hv
def hostlaw_World_Untouched.L2b (w0 : Option Addr) (j : Int) (token_b : Option Addr) (token_l token_c : Nat) (i : Int) (w : World) (N1 : Option Addr → Int → World → Prop) (N2 : Option Addr → Int → Option Addr → Nat → Nat → Int → World → Prop) (R : Bool → World → Prop) : Prop :=
  Pn w0 fun a =>
  LdL (a.add 48) w fun x25_b x25_l x25_c =>
  Pn x25_b fun a_1 =>
  (0 ≤ j ∧ j < ((x25_l : Nat) : Int)) ∧
  LdL (Addr.add a_1 (j.toNat * 1)) w fun x28_b x28_l x28_c =>
  Bm (decide (i < ((x28_l : Nat) : Int))) (
    Pn w0 fun a_2 =>
    LdL (a_2.add 48) w fun x36_b x36_l x36_c =>
    Pn x36_b fun a_3 =>
    (0 ≤ j ∧ j < ((x36_l : Nat) : Int)) ∧
    LdL (Addr.add a_3 (j.toNat * 1)) w fun x39_b x39_l x39_c =>
    Pn x39_b fun a_4 =>
    (0 ≤ i ∧ i < ((x39_l : Nat) : Int)) ∧
    LdL (Addr.add a_4 (i.toNat * 1)) w fun x42_b x42_l x42_c =>
    api_SameBytes.Call x42_b x42_l x42_c token_b token_l token_c w fun r44 w1 =>
    Bm (!r44) (
      R false w1) (
      N2 w0 j token_b token_l token_c (IntKind.i64.wrap (i + (1 : Int))) w1)) (
    N1 w0 (IntKind.i64.wrap (j + (1 : Int))) w)
theorem hostlaw_World_Untouched.L2b_eq (w0 : Option Addr) (j : Int) (token_b : Option Addr) (token_l token_c : Nat) (i : Int) (w : World) (N1 : Option Addr → Int → World → Prop) (N2 : Option Addr → Int → Option Addr → Nat → Nat → Int → World → Prop) (R : Bool → World → Prop)  :
    (
  Pn w0 fun a =>
  LdL (a.add 48) w fun x25_b x25_l x25_c =>
  Pn x25_b fun a_1 =>
  (0 ≤ j ∧ j < ((x25_l : Nat) : Int)) ∧
  LdL (Addr.add a_1 (j.toNat * 1)) w fun x28_b x28_l x28_c =>
  Bm (decide (i < ((x28_l : Nat) : Int))) (
    Pn w0 fun a_2 =>
    LdL (a_2.add 48) w fun x36_b x36_l x36_c =>
    Pn x36_b fun a_3 =>
    (0 ≤ j ∧ j < ((x36_l : Nat) : Int)) ∧
    LdL (Addr.add a_3 (j.toNat * 1)) w fun x39_b x39_l x39_c =>
    Pn x39_b fun a_4 =>
    (0 ≤ i ∧ i < ((x39_l : Nat) : Int)) ∧
    LdL (Addr.add a_4 (i.toNat * 1)) w fun x42_b x42_l x42_c =>
    api_SameBytes.Call x42_b x42_l x42_c token_b token_l token_c w fun r44 w1 =>
    Bm (!r44) (
      R false w1) (
      N2 w0 j token_b token_l token_c (IntKind.i64.wrap (i + (1 : Int))) w1)) (
    N1 w0 (IntKind.i64.wrap (j + (1 : Int))) w)) = kstep Tryz.prog 115 Tryz.f16.results.toList (Tryz.f16.body.getD .skip) (hostlaw_World_Untouched.RV R) (kvc Tryz.prog 115 Tryz.f16.results.toList (Tryz.f16.body.getD .skip) (hostlaw_World_Untouched.RV R) [([(0, [1, 0, 1, 0, 0, 1, 0, 0, 1, 1, 0, 0]), (2, [1, 0, 1, 0, 0, 1, 0, 0, 1, 1, 0, 0]), (1, [2]), (1, [1]), (0, [1, 0, 1, 0, 0, 1, 1]), (2, [1, 0, 1, 0, 0]), (1, [0]), (0, [1, 1])], fun σ w => dP (slotOf σ 0) fun w0_ => dI .i64 (slotOf σ 3) fun j_ => dL (slotOf σ 4) fun token_b_ token_l_ token_c_ => dI .i64 (slotOf σ 5) fun i_ => N2 w0_ j_ token_b_ token_l_ token_c_ i_ w),
    ([(0, [1, 0, 1, 0, 0]), (2, [1, 0, 1, 0, 0]), (1, [0]), (0, [1, 1])], fun σ w => dP (slotOf σ 0) fun w0_ => dI .i64 (slotOf σ 3) fun j_ => N1 w0_ j_ w)] 2000) [(0, [1, 0, 1, 0, 0, 1, 0, 0, 1, 1, 0, 0]), (2, [1, 0, 1, 0, 0, 1, 0, 0, 1, 1, 0, 0]), (1, [2]), (1, [1]), (0, [1, 0, 1, 0, 0, 1, 1]), (2, [1, 0, 1, 0, 0]), (1, [0]), (0, [1, 1])] [(0, .pointer w0), (3, .int .i64 j), (4, .slice token_b token_l token_c), (5, .int .i64 i)] w := by kernel_rfl
theorem hostlaw_World_Untouched.L2b_sound {R : Bool → World → Prop} {N1 : Option Addr → Int → World → Prop} (hN1 : ∀ w0 j w, N1 w0 j w → KW Tryz.prog 16 115 (hostlaw_World_Untouched.RV R) ([(0, [1, 0, 1, 0, 0]), (2, [1, 0, 1, 0, 0]), (1, [0]), (0, [1, 1])].map (toItem (Tryz.f16.body.getD .skip))) [(0, .pointer w0), (3, .int .i64 j)] w) {N2 : Option Addr → Int → Option Addr → Nat → Nat → Int → World → Prop} (hN2 : ∀ w0 j token_b token_l token_c i w, N2 w0 j token_b token_l token_c i w → KW Tryz.prog 16 115 (hostlaw_World_Untouched.RV R) ([(0, [1, 0, 1, 0, 0, 1, 0, 0, 1, 1, 0, 0]), (2, [1, 0, 1, 0, 0, 1, 0, 0, 1, 1, 0, 0]), (1, [2]), (1, [1]), (0, [1, 0, 1, 0, 0, 1, 1]), (2, [1, 0, 1, 0, 0]), (1, [0]), (0, [1, 1])].map (toItem (Tryz.f16.body.getD .skip))) [(0, .pointer w0), (3, .int .i64 j), (4, .slice token_b token_l token_c), (5, .int .i64 i)] w) (w0 : Option Addr) (j : Int) (token_b : Option Addr) (token_l token_c : Nat) (i : Int) (w : World) (h : hostlaw_World_Untouched.L2b w0 j token_b token_l token_c i w N1 N2 R) :
    KW Tryz.prog 16 115 (hostlaw_World_Untouched.RV R) ([(0, [1, 0, 1, 0, 0, 1, 0, 0, 1, 1, 0, 0]), (2, [1, 0, 1, 0, 0, 1, 0, 0, 1, 1, 0, 0]), (1, [2]), (1, [1]), (0, [1, 0, 1, 0, 0, 1, 1]), (2, [1, 0, 1, 0, 0]), (1, [0]), (0, [1, 1])].map (toItem (Tryz.f16.body.getD .skip))) [(0, .pointer w0), (3, .int .i64 j), (4, .slice token_b token_l token_c), (5, .int .i64 i)] w := by
  exact block_spec Tryz.func16 Tryz.mixed (stops_cons (fun σ w h => by
      obtain ⟨w0_, e0, h⟩ := dP_elim h
      obtain ⟨j_, e1, h⟩ := dI_elim h
      obtain ⟨token_b_, token_l_, token_c_, e2, h⟩ := dL_elim h
      obtain ⟨i_, e3, h⟩ := dI_elim h
      exact (hN2 w0_ j_ token_b_ token_l_ token_c_ i_ w h).weaken (Sub.cons (Sub.cons (Sub.cons (Sub.cons (Sub.nil _) e3) e2) e1) e0)) (stops_cons (fun σ w h => by
      obtain ⟨w0_, e0, h⟩ := dP_elim h
      obtain ⟨j_, e1, h⟩ := dI_elim h
      exact (hN1 w0_ j_ w h).weaken (Sub.cons (Sub.cons (Sub.nil _) e1) e0)) stops_nil)) (Eq.mp (hostlaw_World_Untouched.L2b_eq w0 j token_b token_l token_c i w N1 N2 R ) h)
def hostlaw_World_Untouched.L2 (w0 : Option Addr) (j : Int) (token_b : Option Addr) (token_l token_c : Nat) (i : Int) (w : World) (N1 : Option Addr → Int → World → Prop) (R : Bool → World → Prop) : Prop :=
  ∃ (I : Nat → Option Addr → Int → Option Addr → Nat → Nat → Int → World → Prop) (m : Nat), I m w0 j token_b token_l token_c i w ∧ ∀ m w0 j token_b token_l token_c i w, I m w0 j token_b token_l token_c i w → hostlaw_World_Untouched.L2b w0 j token_b token_l token_c i w N1 (fun w0' j' token_b' token_l' token_c' i' w' => ∃ m', m' < m ∧ I m' w0' j' token_b' token_l' token_c' i' w') R
theorem hostlaw_World_Untouched.L2_sound {R : Bool → World → Prop} {N1 : Option Addr → Int → World → Prop} (hN1 : ∀ w0 j w, N1 w0 j w → KW Tryz.prog 16 115 (hostlaw_World_Untouched.RV R) ([(0, [1, 0, 1, 0, 0]), (2, [1, 0, 1, 0, 0]), (1, [0]), (0, [1, 1])].map (toItem (Tryz.f16.body.getD .skip))) [(0, .pointer w0), (3, .int .i64 j)] w) (w0 : Option Addr) (j : Int) (token_b : Option Addr) (token_l token_c : Nat) (i : Int) (w : World) (h : hostlaw_World_Untouched.L2 w0 j token_b token_l token_c i w N1 R) :
    KW Tryz.prog 16 115 (hostlaw_World_Untouched.RV R) ([(0, [1, 0, 1, 0, 0, 1, 0, 0, 1, 1, 0, 0]), (2, [1, 0, 1, 0, 0, 1, 0, 0, 1, 1, 0, 0]), (1, [2]), (1, [1]), (0, [1, 0, 1, 0, 0, 1, 1]), (2, [1, 0, 1, 0, 0]), (1, [0]), (0, [1, 1])].map (toItem (Tryz.f16.body.getD .skip))) [(0, .pointer w0), (3, .int .i64 j), (4, .slice token_b token_l token_c), (5, .int .i64 i)] w := by
  obtain ⟨I, m, hBase, hr⟩ := h
  refine KW.loop (fun m σ w => ∃ (w0 : Option Addr) (j : Int) (token_b : Option Addr) (token_l token_c : Nat) (i : Int), σ = [(0, .pointer w0), (3, .int .i64 j), (4, .slice token_b token_l token_c), (5, .int .i64 i)] ∧ I m w0 j token_b token_l token_c i w) ?_ m _ w ⟨w0, j, token_b, token_l, token_c, i, rfl, hBase⟩
  rintro m ih σ w ⟨w0, j, token_b, token_l, token_c, i, rfl, hI⟩
  exact hostlaw_World_Untouched.L2b_sound hN1 (N2 := fun w0' j' token_b' token_l' token_c' i' w' => ∃ m', m' < m ∧ I m' w0' j' token_b' token_l' token_c' i' w') (fun w0' j' token_b' token_l' token_c' i' w' hx => by obtain ⟨m', hlt, hI'⟩ := hx; exact ih m' hlt _ w' ⟨w0', j', token_b', token_l', token_c', i', rfl, hI'⟩) w0 j token_b token_l token_c i w (hr m w0 j token_b token_l token_c i w hI)
def hostlaw_World_Untouched.L4b (w0 : Option Addr) (j i : Int) (w : World) (N3 : Option Addr → Int → World → Prop) (N4 : Option Addr → Int → Int → World → Prop) (R : Bool → World → Prop) : Prop :=
  Pn w0 fun a =>
  LdL (a.add 47) w fun x59_b x59_l x59_c =>
  Pn x59_b fun a_1 =>
  (0 ≤ j ∧ j < ((x59_l : Nat) : Int)) ∧
  LdL (Addr.add a_1 (j.toNat * 1)) w fun x62_b x62_l x62_c =>
  Bm (decide (i < ((x62_l : Nat) : Int))) (
    Pn w0 fun a_2 =>
    LdL (a_2.add 47) w fun x70_b x70_l x70_c =>
    Pn x70_b fun a_3 =>
    (0 ≤ j ∧ j < ((x70_l : Nat) : Int)) ∧
    LdL (Addr.add a_3 (j.toNat * 1)) w fun x73_b x73_l x73_c =>
    Pn x73_b fun a_4 =>
    (0 ≤ i ∧ i < ((x73_l : Nat) : Int)) ∧
    LdI .i64 (Addr.add a_4 (i.toNat * 1)) w fun x76 =>
    Bm (x76 != (IntKind.i64.wrap ((-1 : Int) - j))) (
      R false w) (
      N4 w0 j (IntKind.i64.wrap (i + (1 : Int))) w)) (
    N3 w0 (IntKind.i64.wrap (j + (1 : Int))) w)
theorem hostlaw_World_Untouched.L4b_eq (w0 : Option Addr) (j i : Int) (w : World) (N3 : Option Addr → Int → World → Prop) (N4 : Option Addr → Int → Int → World → Prop) (R : Bool → World → Prop)  :
    (
  Pn w0 fun a =>
  LdL (a.add 47) w fun x59_b x59_l x59_c =>
  Pn x59_b fun a_1 =>
  (0 ≤ j ∧ j < ((x59_l : Nat) : Int)) ∧
  LdL (Addr.add a_1 (j.toNat * 1)) w fun x62_b x62_l x62_c =>
  Bm (decide (i < ((x62_l : Nat) : Int))) (
    Pn w0 fun a_2 =>
    LdL (a_2.add 47) w fun x70_b x70_l x70_c =>
    Pn x70_b fun a_3 =>
    (0 ≤ j ∧ j < ((x70_l : Nat) : Int)) ∧
    LdL (Addr.add a_3 (j.toNat * 1)) w fun x73_b x73_l x73_c =>
    Pn x73_b fun a_4 =>
    (0 ≤ i ∧ i < ((x73_l : Nat) : Int)) ∧
    LdI .i64 (Addr.add a_4 (i.toNat * 1)) w fun x76 =>
    Bm (x76 != (IntKind.i64.wrap ((-1 : Int) - j))) (
      R false w) (
      N4 w0 j (IntKind.i64.wrap (i + (1 : Int))) w)) (
    N3 w0 (IntKind.i64.wrap (j + (1 : Int))) w)) = kstep Tryz.prog 115 Tryz.f16.results.toList (Tryz.f16.body.getD .skip) (hostlaw_World_Untouched.RV R) (kvc Tryz.prog 115 Tryz.f16.results.toList (Tryz.f16.body.getD .skip) (hostlaw_World_Untouched.RV R) [([(0, [1, 1, 0, 1, 0, 0, 1, 0, 0, 1, 0, 0]), (2, [1, 1, 0, 1, 0, 0, 1, 0, 0, 1, 0, 0]), (1, [6]), (1, [5]), (0, [1, 1, 0, 1, 0, 0, 1, 1]), (2, [1, 1, 0, 1, 0, 0]), (1, [4]), (0, [1, 1, 1])], fun σ w => dP (slotOf σ 0) fun w0_ => dI .i64 (slotOf σ 6) fun j_ => dI .i64 (slotOf σ 7) fun i_ => N4 w0_ j_ i_ w),
    ([(0, [1, 1, 0, 1, 0, 0]), (2, [1, 1, 0, 1, 0, 0]), (1, [4]), (0, [1, 1, 1])], fun σ w => dP (slotOf σ 0) fun w0_ => dI .i64 (slotOf σ 6) fun j_ => N3 w0_ j_ w)] 2000) [(0, [1, 1, 0, 1, 0, 0, 1, 0, 0, 1, 0, 0]), (2, [1, 1, 0, 1, 0, 0, 1, 0, 0, 1, 0, 0]), (1, [6]), (1, [5]), (0, [1, 1, 0, 1, 0, 0, 1, 1]), (2, [1, 1, 0, 1, 0, 0]), (1, [4]), (0, [1, 1, 1])] [(0, .pointer w0), (6, .int .i64 j), (7, .int .i64 i)] w := by kernel_rfl
theorem hostlaw_World_Untouched.L4b_sound {R : Bool → World → Prop} {N3 : Option Addr → Int → World → Prop} (hN3 : ∀ w0 j w, N3 w0 j w → KW Tryz.prog 16 115 (hostlaw_World_Untouched.RV R) ([(0, [1, 1, 0, 1, 0, 0]), (2, [1, 1, 0, 1, 0, 0]), (1, [4]), (0, [1, 1, 1])].map (toItem (Tryz.f16.body.getD .skip))) [(0, .pointer w0), (6, .int .i64 j)] w) {N4 : Option Addr → Int → Int → World → Prop} (hN4 : ∀ w0 j i w, N4 w0 j i w → KW Tryz.prog 16 115 (hostlaw_World_Untouched.RV R) ([(0, [1, 1, 0, 1, 0, 0, 1, 0, 0, 1, 0, 0]), (2, [1, 1, 0, 1, 0, 0, 1, 0, 0, 1, 0, 0]), (1, [6]), (1, [5]), (0, [1, 1, 0, 1, 0, 0, 1, 1]), (2, [1, 1, 0, 1, 0, 0]), (1, [4]), (0, [1, 1, 1])].map (toItem (Tryz.f16.body.getD .skip))) [(0, .pointer w0), (6, .int .i64 j), (7, .int .i64 i)] w) (w0 : Option Addr) (j i : Int) (w : World) (h : hostlaw_World_Untouched.L4b w0 j i w N3 N4 R) :
    KW Tryz.prog 16 115 (hostlaw_World_Untouched.RV R) ([(0, [1, 1, 0, 1, 0, 0, 1, 0, 0, 1, 0, 0]), (2, [1, 1, 0, 1, 0, 0, 1, 0, 0, 1, 0, 0]), (1, [6]), (1, [5]), (0, [1, 1, 0, 1, 0, 0, 1, 1]), (2, [1, 1, 0, 1, 0, 0]), (1, [4]), (0, [1, 1, 1])].map (toItem (Tryz.f16.body.getD .skip))) [(0, .pointer w0), (6, .int .i64 j), (7, .int .i64 i)] w := by
  exact block_spec Tryz.func16 Tryz.mixed (stops_cons (fun σ w h => by
      obtain ⟨w0_, e0, h⟩ := dP_elim h
      obtain ⟨j_, e1, h⟩ := dI_elim h
      obtain ⟨i_, e2, h⟩ := dI_elim h
      exact (hN4 w0_ j_ i_ w h).weaken (Sub.cons (Sub.cons (Sub.cons (Sub.nil _) e2) e1) e0)) (stops_cons (fun σ w h => by
      obtain ⟨w0_, e0, h⟩ := dP_elim h
      obtain ⟨j_, e1, h⟩ := dI_elim h
      exact (hN3 w0_ j_ w h).weaken (Sub.cons (Sub.cons (Sub.nil _) e1) e0)) stops_nil)) (Eq.mp (hostlaw_World_Untouched.L4b_eq w0 j i w N3 N4 R ) h)
def hostlaw_World_Untouched.L4 (w0 : Option Addr) (j i : Int) (w : World) (N3 : Option Addr → Int → World → Prop) (R : Bool → World → Prop) : Prop :=
  ∃ (I : Nat → Option Addr → Int → Int → World → Prop) (m : Nat), I m w0 j i w ∧ ∀ m w0 j i w, I m w0 j i w → hostlaw_World_Untouched.L4b w0 j i w N3 (fun w0' j' i' w' => ∃ m', m' < m ∧ I m' w0' j' i' w') R
theorem hostlaw_World_Untouched.L4_sound {R : Bool → World → Prop} {N3 : Option Addr → Int → World → Prop} (hN3 : ∀ w0 j w, N3 w0 j w → KW Tryz.prog 16 115 (hostlaw_World_Untouched.RV R) ([(0, [1, 1, 0, 1, 0, 0]), (2, [1, 1, 0, 1, 0, 0]), (1, [4]), (0, [1, 1, 1])].map (toItem (Tryz.f16.body.getD .skip))) [(0, .pointer w0), (6, .int .i64 j)] w) (w0 : Option Addr) (j i : Int) (w : World) (h : hostlaw_World_Untouched.L4 w0 j i w N3 R) :
    KW Tryz.prog 16 115 (hostlaw_World_Untouched.RV R) ([(0, [1, 1, 0, 1, 0, 0, 1, 0, 0, 1, 0, 0]), (2, [1, 1, 0, 1, 0, 0, 1, 0, 0, 1, 0, 0]), (1, [6]), (1, [5]), (0, [1, 1, 0, 1, 0, 0, 1, 1]), (2, [1, 1, 0, 1, 0, 0]), (1, [4]), (0, [1, 1, 1])].map (toItem (Tryz.f16.body.getD .skip))) [(0, .pointer w0), (6, .int .i64 j), (7, .int .i64 i)] w := by
  obtain ⟨I, m, hBase, hr⟩ := h
  refine KW.loop (fun m σ w => ∃ (w0 : Option Addr) (j i : Int), σ = [(0, .pointer w0), (6, .int .i64 j), (7, .int .i64 i)] ∧ I m w0 j i w) ?_ m _ w ⟨w0, j, i, rfl, hBase⟩
  rintro m ih σ w ⟨w0, j, i, rfl, hI⟩
  exact hostlaw_World_Untouched.L4b_sound hN3 (N4 := fun w0' j' i' w' => ∃ m', m' < m ∧ I m' w0' j' i' w') (fun w0' j' i' w' hx => by obtain ⟨m', hlt, hI'⟩ := hx; exact ih m' hlt _ w' ⟨w0', j', i', rfl, hI'⟩) w0 j i w (hr m w0 j i w hI)
def hostlaw_World_Untouched.L6b (w0 : Option Addr) (j i : Int) (w : World) (N5 : Option Addr → Int → World → Prop) (N6 : Option Addr → Int → Int → World → Prop) (R : Bool → World → Prop) : Prop :=
  Pn w0 fun a =>
  LdL (a.add 49) w fun x93_b x93_l x93_c =>
  Pn x93_b fun a_1 =>
  (0 ≤ j ∧ j < ((x93_l : Nat) : Int)) ∧
  LdL (Addr.add a_1 (j.toNat * 1)) w fun x96_b x96_l x96_c =>
  Bm (decide (i < ((x96_l : Nat) : Int))) (
    Pn w0 fun a_2 =>
    LdL (a_2.add 49) w.drew fun x104_b x104_l x104_c =>
    Pn x104_b fun a_3 =>
    (0 ≤ j ∧ j < ((x104_l : Nat) : Int)) ∧
    LdL (Addr.add a_3 (j.toNat * 1)) w.drew fun x107_b x107_l x107_c =>
    Pn x107_b fun a_4 =>
    (0 ≤ i ∧ i < ((x107_l : Nat) : Int)) ∧
    LdI .u8 (Addr.add a_4 (i.toNat * 1)) w.drew fun x110 =>
    hostlaw_Stamp.Call j i w.drew fun r113 w1 =>
    w1.cell? (Addr.add a_4 (i.toNat * 1)) = some (.int .u8 x110) ∧
    w1.cell? (Addr.add a_3 (j.toNat * 1)) = some (.slice x107_b x107_l x107_c) ∧
    w1.cell? (a_2.add 49) = some (.slice x104_b x104_l x104_c) ∧
    Bm (x110 != r113) (
      R false w1) (
      N6 w0 j (IntKind.i64.wrap (i + (1 : Int))) w1)) (
    N5 w0 (IntKind.i64.wrap (j + (1 : Int))) w)
theorem hostlaw_World_Untouched.L6b_eq (w0 : Option Addr) (j i : Int) (w : World) (N5 : Option Addr → Int → World → Prop) (N6 : Option Addr → Int → Int → World → Prop) (R : Bool → World → Prop)  :
    (
  Pn w0 fun a =>
  LdL (a.add 49) w fun x93_b x93_l x93_c =>
  Pn x93_b fun a_1 =>
  (0 ≤ j ∧ j < ((x93_l : Nat) : Int)) ∧
  LdL (Addr.add a_1 (j.toNat * 1)) w fun x96_b x96_l x96_c =>
  Bm (decide (i < ((x96_l : Nat) : Int))) (
    Pn w0 fun a_2 =>
    LdL (a_2.add 49) w.drew fun x104_b x104_l x104_c =>
    Pn x104_b fun a_3 =>
    (0 ≤ j ∧ j < ((x104_l : Nat) : Int)) ∧
    LdL (Addr.add a_3 (j.toNat * 1)) w.drew fun x107_b x107_l x107_c =>
    Pn x107_b fun a_4 =>
    (0 ≤ i ∧ i < ((x107_l : Nat) : Int)) ∧
    LdI .u8 (Addr.add a_4 (i.toNat * 1)) w.drew fun x110 =>
    hostlaw_Stamp.Call j i w.drew fun r113 w1 =>
    w1.cell? (Addr.add a_4 (i.toNat * 1)) = some (.int .u8 x110) ∧
    w1.cell? (Addr.add a_3 (j.toNat * 1)) = some (.slice x107_b x107_l x107_c) ∧
    w1.cell? (a_2.add 49) = some (.slice x104_b x104_l x104_c) ∧
    Bm (x110 != r113) (
      R false w1) (
      N6 w0 j (IntKind.i64.wrap (i + (1 : Int))) w1)) (
    N5 w0 (IntKind.i64.wrap (j + (1 : Int))) w)) = kstep Tryz.prog 115 Tryz.f16.results.toList (Tryz.f16.body.getD .skip) (hostlaw_World_Untouched.RV R) (kvc Tryz.prog 115 Tryz.f16.results.toList (Tryz.f16.body.getD .skip) (hostlaw_World_Untouched.RV R) [([(0, [1, 1, 1, 0, 1, 0, 0, 1, 0, 0, 1, 0, 0]), (2, [1, 1, 1, 0, 1, 0, 0, 1, 0, 0, 1, 0, 0]), (1, [10]), (1, [9]), (0, [1, 1, 1, 0, 1, 0, 0, 1, 1]), (2, [1, 1, 1, 0, 1, 0, 0]), (1, [8]), (0, [1, 1, 1, 1])], fun σ w => dP (slotOf σ 0) fun w0_ => dI .i64 (slotOf σ 8) fun j_ => dI .i64 (slotOf σ 9) fun i_ => N6 w0_ j_ i_ w),
    ([(0, [1, 1, 1, 0, 1, 0, 0]), (2, [1, 1, 1, 0, 1, 0, 0]), (1, [8]), (0, [1, 1, 1, 1])], fun σ w => dP (slotOf σ 0) fun w0_ => dI .i64 (slotOf σ 8) fun j_ => N5 w0_ j_ w)] 2000) [(0, [1, 1, 1, 0, 1, 0, 0, 1, 0, 0, 1, 0, 0]), (2, [1, 1, 1, 0, 1, 0, 0, 1, 0, 0, 1, 0, 0]), (1, [10]), (1, [9]), (0, [1, 1, 1, 0, 1, 0, 0, 1, 1]), (2, [1, 1, 1, 0, 1, 0, 0]), (1, [8]), (0, [1, 1, 1, 1])] [(0, .pointer w0), (8, .int .i64 j), (9, .int .i64 i)] w := by kernel_rfl
theorem hostlaw_World_Untouched.L6b_sound {R : Bool → World → Prop} {N5 : Option Addr → Int → World → Prop} (hN5 : ∀ w0 j w, N5 w0 j w → KW Tryz.prog 16 115 (hostlaw_World_Untouched.RV R) ([(0, [1, 1, 1, 0, 1, 0, 0]), (2, [1, 1, 1, 0, 1, 0, 0]), (1, [8]), (0, [1, 1, 1, 1])].map (toItem (Tryz.f16.body.getD .skip))) [(0, .pointer w0), (8, .int .i64 j)] w) {N6 : Option Addr → Int → Int → World → Prop} (hN6 : ∀ w0 j i w, N6 w0 j i w → KW Tryz.prog 16 115 (hostlaw_World_Untouched.RV R) ([(0, [1, 1, 1, 0, 1, 0, 0, 1, 0, 0, 1, 0, 0]), (2, [1, 1, 1, 0, 1, 0, 0, 1, 0, 0, 1, 0, 0]), (1, [10]), (1, [9]), (0, [1, 1, 1, 0, 1, 0, 0, 1, 1]), (2, [1, 1, 1, 0, 1, 0, 0]), (1, [8]), (0, [1, 1, 1, 1])].map (toItem (Tryz.f16.body.getD .skip))) [(0, .pointer w0), (8, .int .i64 j), (9, .int .i64 i)] w) (w0 : Option Addr) (j i : Int) (w : World) (h : hostlaw_World_Untouched.L6b w0 j i w N5 N6 R) :
    KW Tryz.prog 16 115 (hostlaw_World_Untouched.RV R) ([(0, [1, 1, 1, 0, 1, 0, 0, 1, 0, 0, 1, 0, 0]), (2, [1, 1, 1, 0, 1, 0, 0, 1, 0, 0, 1, 0, 0]), (1, [10]), (1, [9]), (0, [1, 1, 1, 0, 1, 0, 0, 1, 1]), (2, [1, 1, 1, 0, 1, 0, 0]), (1, [8]), (0, [1, 1, 1, 1])].map (toItem (Tryz.f16.body.getD .skip))) [(0, .pointer w0), (8, .int .i64 j), (9, .int .i64 i)] w := by
  exact block_spec Tryz.func16 Tryz.mixed (stops_cons (fun σ w h => by
      obtain ⟨w0_, e0, h⟩ := dP_elim h
      obtain ⟨j_, e1, h⟩ := dI_elim h
      obtain ⟨i_, e2, h⟩ := dI_elim h
      exact (hN6 w0_ j_ i_ w h).weaken (Sub.cons (Sub.cons (Sub.cons (Sub.nil _) e2) e1) e0)) (stops_cons (fun σ w h => by
      obtain ⟨w0_, e0, h⟩ := dP_elim h
      obtain ⟨j_, e1, h⟩ := dI_elim h
      exact (hN5 w0_ j_ w h).weaken (Sub.cons (Sub.cons (Sub.nil _) e1) e0)) stops_nil)) (Eq.mp (hostlaw_World_Untouched.L6b_eq w0 j i w N5 N6 R ) h)
def hostlaw_World_Untouched.L6 (w0 : Option Addr) (j i : Int) (w : World) (N5 : Option Addr → Int → World → Prop) (R : Bool → World → Prop) : Prop :=
  ∃ (I : Nat → Option Addr → Int → Int → World → Prop) (m : Nat), I m w0 j i w ∧ ∀ m w0 j i w, I m w0 j i w → hostlaw_World_Untouched.L6b w0 j i w N5 (fun w0' j' i' w' => ∃ m', m' < m ∧ I m' w0' j' i' w') R
theorem hostlaw_World_Untouched.L6_sound {R : Bool → World → Prop} {N5 : Option Addr → Int → World → Prop} (hN5 : ∀ w0 j w, N5 w0 j w → KW Tryz.prog 16 115 (hostlaw_World_Untouched.RV R) ([(0, [1, 1, 1, 0, 1, 0, 0]), (2, [1, 1, 1, 0, 1, 0, 0]), (1, [8]), (0, [1, 1, 1, 1])].map (toItem (Tryz.f16.body.getD .skip))) [(0, .pointer w0), (8, .int .i64 j)] w) (w0 : Option Addr) (j i : Int) (w : World) (h : hostlaw_World_Untouched.L6 w0 j i w N5 R) :
    KW Tryz.prog 16 115 (hostlaw_World_Untouched.RV R) ([(0, [1, 1, 1, 0, 1, 0, 0, 1, 0, 0, 1, 0, 0]), (2, [1, 1, 1, 0, 1, 0, 0, 1, 0, 0, 1, 0, 0]), (1, [10]), (1, [9]), (0, [1, 1, 1, 0, 1, 0, 0, 1, 1]), (2, [1, 1, 1, 0, 1, 0, 0]), (1, [8]), (0, [1, 1, 1, 1])].map (toItem (Tryz.f16.body.getD .skip))) [(0, .pointer w0), (8, .int .i64 j), (9, .int .i64 i)] w := by
  obtain ⟨I, m, hBase, hr⟩ := h
  refine KW.loop (fun m σ w => ∃ (w0 : Option Addr) (j i : Int), σ = [(0, .pointer w0), (8, .int .i64 j), (9, .int .i64 i)] ∧ I m w0 j i w) ?_ m _ w ⟨w0, j, i, rfl, hBase⟩
  rintro m ih σ w ⟨w0, j, i, rfl, hI⟩
  exact hostlaw_World_Untouched.L6b_sound hN5 (N6 := fun w0' j' i' w' => ∃ m', m' < m ∧ I m' w0' j' i' w') (fun w0' j' i' w' hx => by obtain ⟨m', hlt, hI'⟩ := hx; exact ih m' hlt _ w' ⟨w0', j', i', rfl, hI'⟩) w0 j i w (hr m w0 j i w hI)
def hostlaw_World_Untouched.L5b (w0 : Option Addr) (j : Int) (w : World)  (N5 : Option Addr → Int → World → Prop) (R : Bool → World → Prop) : Prop :=
  Pn w0 fun a =>
  LdL (a.add 49) w fun x84_b x84_l x84_c =>
  Bm (decide (j < ((x84_l : Nat) : Int))) (
    hostlaw_World_Untouched.L6 w0 j (0 : Int) w N5 R) (
    R true w)
theorem hostlaw_World_Untouched.L5b_eq (w0 : Option Addr) (j : Int) (w : World)  (N5 : Option Addr → Int → World → Prop) (R : Bool → World → Prop) (sL6 : Option Addr → Int → Int → World → Prop) :
    (
  Pn w0 fun a =>
  LdL (a.add 49) w fun x84_b x84_l x84_c =>
  Bm (decide (j < ((x84_l : Nat) : Int))) (
    sL6 w0 j (0 : Int) w) (
    R true w)) = kstep Tryz.prog 115 Tryz.f16.results.toList (Tryz.f16.body.getD .skip) (hostlaw_World_Untouched.RV R) (kvc Tryz.prog 115 Tryz.f16.results.toList (Tryz.f16.body.getD .skip) (hostlaw_World_Untouched.RV R) [([(0, [1, 1, 1, 0, 1, 0, 0, 1, 0, 0, 1, 0, 0]), (2, [1, 1, 1, 0, 1, 0, 0, 1, 0, 0, 1, 0, 0]), (1, [10]), (1, [9]), (0, [1, 1, 1, 0, 1, 0, 0, 1, 1]), (2, [1, 1, 1, 0, 1, 0, 0]), (1, [8]), (0, [1, 1, 1, 1])], fun σ w => dP (slotOf σ 0) fun w0_ => dI .i64 (slotOf σ 8) fun j_ => dI .i64 (slotOf σ 9) fun i_ => sL6 w0_ j_ i_ w)] 2000) [(0, [1, 1, 1, 0, 1, 0, 0]), (2, [1, 1, 1, 0, 1, 0, 0]), (1, [8]), (0, [1, 1, 1, 1])] [(0, .pointer w0), (8, .int .i64 j)] w := by kernel_rfl
theorem hostlaw_World_Untouched.L5b_sound {R : Bool → World → Prop} {N5 : Option Addr → Int → World → Prop} (hN5 : ∀ w0 j w, N5 w0 j w → KW Tryz.prog 16 115 (hostlaw_World_Untouched.RV R) ([(0, [1, 1, 1, 0, 1, 0, 0]), (2, [1, 1, 1, 0, 1, 0, 0]), (1, [8]), (0, [1, 1, 1, 1])].map (toItem (Tryz.f16.body.getD .skip))) [(0, .pointer w0), (8, .int .i64 j)] w) (w0 : Option Addr) (j : Int) (w : World) (h : hostlaw_World_Untouched.L5b w0 j w  N5 R) :
    KW Tryz.prog 16 115 (hostlaw_World_Untouched.RV R) ([(0, [1, 1, 1, 0, 1, 0, 0]), (2, [1, 1, 1, 0, 1, 0, 0]), (1, [8]), (0, [1, 1, 1, 1])].map (toItem (Tryz.f16.body.getD .skip))) [(0, .pointer w0), (8, .int .i64 j)] w := by
  exact block_spec Tryz.func16 Tryz.mixed (stops_cons (fun σ w h => by
      obtain ⟨w0_, e0, h⟩ := dP_elim h
      obtain ⟨j_, e1, h⟩ := dI_elim h
      obtain ⟨i_, e2, h⟩ := dI_elim h
      exact (hostlaw_World_Untouched.L6_sound hN5 w0_ j_ i_ w h).weaken (Sub.cons (Sub.cons (Sub.cons (Sub.nil _) e2) e1) e0)) stops_nil) (Eq.mp (hostlaw_World_Untouched.L5b_eq w0 j w  N5 R (fun w0_ j_ i_ w => hostlaw_World_Untouched.L6 w0_ j_ i_ w N5 R)) h)
def hostlaw_World_Untouched.L5 (w0 : Option Addr) (j : Int) (w : World)  (R : Bool → World → Prop) : Prop :=
  ∃ (I : Nat → Option Addr → Int → World → Prop) (m : Nat), I m w0 j w ∧ ∀ m w0 j w, I m w0 j w → hostlaw_World_Untouched.L5b w0 j w  (fun w0' j' w' => ∃ m', m' < m ∧ I m' w0' j' w') R
theorem hostlaw_World_Untouched.L5_sound {R : Bool → World → Prop}  (w0 : Option Addr) (j : Int) (w : World) (h : hostlaw_World_Untouched.L5 w0 j w  R) :
    KW Tryz.prog 16 115 (hostlaw_World_Untouched.RV R) ([(0, [1, 1, 1, 0, 1, 0, 0]), (2, [1, 1, 1, 0, 1, 0, 0]), (1, [8]), (0, [1, 1, 1, 1])].map (toItem (Tryz.f16.body.getD .skip))) [(0, .pointer w0), (8, .int .i64 j)] w := by
  obtain ⟨I, m, hBase, hr⟩ := h
  refine KW.loop (fun m σ w => ∃ (w0 : Option Addr) (j : Int), σ = [(0, .pointer w0), (8, .int .i64 j)] ∧ I m w0 j w) ?_ m _ w ⟨w0, j, rfl, hBase⟩
  rintro m ih σ w ⟨w0, j, rfl, hI⟩
  exact hostlaw_World_Untouched.L5b_sound  (N5 := fun w0' j' w' => ∃ m', m' < m ∧ I m' w0' j' w') (fun w0' j' w' hx => by obtain ⟨m', hlt, hI'⟩ := hx; exact ih m' hlt _ w' ⟨w0', j', rfl, hI'⟩) w0 j w (hr m w0 j w hI)
def hostlaw_World_Untouched.L3b (w0 : Option Addr) (j : Int) (w : World)  (N3 : Option Addr → Int → World → Prop) (R : Bool → World → Prop) : Prop :=
  Pn w0 fun a =>
  LdL (a.add 47) w fun x50_b x50_l x50_c =>
  Bm (decide (j < ((x50_l : Nat) : Int))) (
    hostlaw_World_Untouched.L4 w0 j (0 : Int) w N3 R) (
    hostlaw_World_Untouched.L5 w0 (0 : Int) w  R)
theorem hostlaw_World_Untouched.L3b_eq (w0 : Option Addr) (j : Int) (w : World)  (N3 : Option Addr → Int → World → Prop) (R : Bool → World → Prop) (sL4 : Option Addr → Int → Int → World → Prop) (sL5 : Option Addr → Int → World → Prop) :
    (
  Pn w0 fun a =>
  LdL (a.add 47) w fun x50_b x50_l x50_c =>
  Bm (decide (j < ((x50_l : Nat) : Int))) (
    sL4 w0 j (0 : Int) w) (
    sL5 w0 (0 : Int) w)) = kstep Tryz.prog 115 Tryz.f16.results.toList (Tryz.f16.body.getD .skip) (hostlaw_World_Untouched.RV R) (kvc Tryz.prog 115 Tryz.f16.results.toList (Tryz.f16.body.getD .skip) (hostlaw_World_Untouched.RV R) [([(0, [1, 1, 0, 1, 0, 0, 1, 0, 0, 1, 0, 0]), (2, [1, 1, 0, 1, 0, 0, 1, 0, 0, 1, 0, 0]), (1, [6]), (1, [5]), (0, [1, 1, 0, 1, 0, 0, 1, 1]), (2, [1, 1, 0, 1, 0, 0]), (1, [4]), (0, [1, 1, 1])], fun σ w => dP (slotOf σ 0) fun w0_ => dI .i64 (slotOf σ 6) fun j_ => dI .i64 (slotOf σ 7) fun i_ => sL4 w0_ j_ i_ w),
    ([(0, [1, 1, 1, 0, 1, 0, 0]), (2, [1, 1, 1, 0, 1, 0, 0]), (1, [8]), (0, [1, 1, 1, 1])], fun σ w => dP (slotOf σ 0) fun w0_ => dI .i64 (slotOf σ 8) fun j_ => sL5 w0_ j_ w)] 2000) [(0, [1, 1, 0, 1, 0, 0]), (2, [1, 1, 0, 1, 0, 0]), (1, [4]), (0, [1, 1, 1])] [(0, .pointer w0), (6, .int .i64 j)] w := by kernel_rfl
theorem hostlaw_World_Untouched.L3b_sound {R : Bool → World → Prop} {N3 : Option Addr → Int → World → Prop} (hN3 : ∀ w0 j w, N3 w0 j w → KW Tryz.prog 16 115 (hostlaw_World_Untouched.RV R) ([(0, [1, 1, 0, 1, 0, 0]), (2, [1, 1, 0, 1, 0, 0]), (1, [4]), (0, [1, 1, 1])].map (toItem (Tryz.f16.body.getD .skip))) [(0, .pointer w0), (6, .int .i64 j)] w) (w0 : Option Addr) (j : Int) (w : World) (h : hostlaw_World_Untouched.L3b w0 j w  N3 R) :
    KW Tryz.prog 16 115 (hostlaw_World_Untouched.RV R) ([(0, [1, 1, 0, 1, 0, 0]), (2, [1, 1, 0, 1, 0, 0]), (1, [4]), (0, [1, 1, 1])].map (toItem (Tryz.f16.body.getD .skip))) [(0, .pointer w0), (6, .int .i64 j)] w := by
  exact block_spec Tryz.func16 Tryz.mixed (stops_cons (fun σ w h => by
      obtain ⟨w0_, e0, h⟩ := dP_elim h
      obtain ⟨j_, e1, h⟩ := dI_elim h
      obtain ⟨i_, e2, h⟩ := dI_elim h
      exact (hostlaw_World_Untouched.L4_sound hN3 w0_ j_ i_ w h).weaken (Sub.cons (Sub.cons (Sub.cons (Sub.nil _) e2) e1) e0)) (stops_cons (fun σ w h => by
      obtain ⟨w0_, e0, h⟩ := dP_elim h
      obtain ⟨j_, e1, h⟩ := dI_elim h
      exact (hostlaw_World_Untouched.L5_sound  w0_ j_ w h).weaken (Sub.cons (Sub.cons (Sub.nil _) e1) e0)) stops_nil)) (Eq.mp (hostlaw_World_Untouched.L3b_eq w0 j w  N3 R (fun w0_ j_ i_ w => hostlaw_World_Untouched.L4 w0_ j_ i_ w N3 R) (fun w0_ j_ w => hostlaw_World_Untouched.L5 w0_ j_ w  R)) h)
def hostlaw_World_Untouched.L3 (w0 : Option Addr) (j : Int) (w : World)  (R : Bool → World → Prop) : Prop :=
  ∃ (I : Nat → Option Addr → Int → World → Prop) (m : Nat), I m w0 j w ∧ ∀ m w0 j w, I m w0 j w → hostlaw_World_Untouched.L3b w0 j w  (fun w0' j' w' => ∃ m', m' < m ∧ I m' w0' j' w') R
theorem hostlaw_World_Untouched.L3_sound {R : Bool → World → Prop}  (w0 : Option Addr) (j : Int) (w : World) (h : hostlaw_World_Untouched.L3 w0 j w  R) :
    KW Tryz.prog 16 115 (hostlaw_World_Untouched.RV R) ([(0, [1, 1, 0, 1, 0, 0]), (2, [1, 1, 0, 1, 0, 0]), (1, [4]), (0, [1, 1, 1])].map (toItem (Tryz.f16.body.getD .skip))) [(0, .pointer w0), (6, .int .i64 j)] w := by
  obtain ⟨I, m, hBase, hr⟩ := h
  refine KW.loop (fun m σ w => ∃ (w0 : Option Addr) (j : Int), σ = [(0, .pointer w0), (6, .int .i64 j)] ∧ I m w0 j w) ?_ m _ w ⟨w0, j, rfl, hBase⟩
  rintro m ih σ w ⟨w0, j, rfl, hI⟩
  exact hostlaw_World_Untouched.L3b_sound  (N3 := fun w0' j' w' => ∃ m', m' < m ∧ I m' w0' j' w') (fun w0' j' w' hx => by obtain ⟨m', hlt, hI'⟩ := hx; exact ih m' hlt _ w' ⟨w0', j', rfl, hI'⟩) w0 j w (hr m w0 j w hI)
def hostlaw_World_Untouched.L1b (w0 : Option Addr) (j : Int) (w : World)  (N1 : Option Addr → Int → World → Prop) (R : Bool → World → Prop) : Prop :=
  Pn w0 fun a =>
  LdL (a.add 48) w fun x14_b x14_l x14_c =>
  Bm (decide (j < ((x14_l : Nat) : Int))) (
    hostlaw_Token.Call j w fun r20_b r20_l r20_c w1 =>
    hostlaw_World_Untouched.L2 w0 j r20_b r20_l r20_c (0 : Int) w1 N1 R) (
    hostlaw_World_Untouched.L3 w0 (0 : Int) w  R)
theorem hostlaw_World_Untouched.L1b_eq (w0 : Option Addr) (j : Int) (w : World)  (N1 : Option Addr → Int → World → Prop) (R : Bool → World → Prop) (sL2 : Option Addr → Int → Option Addr → Nat → Nat → Int → World → Prop) (sL3 : Option Addr → Int → World → Prop) :
    (
  Pn w0 fun a =>
  LdL (a.add 48) w fun x14_b x14_l x14_c =>
  Bm (decide (j < ((x14_l : Nat) : Int))) (
    hostlaw_Token.Call j w fun r20_b r20_l r20_c w1 =>
    sL2 w0 j r20_b r20_l r20_c (0 : Int) w1) (
    sL3 w0 (0 : Int) w)) = kstep Tryz.prog 115 Tryz.f16.results.toList (Tryz.f16.body.getD .skip) (hostlaw_World_Untouched.RV R) (kvc Tryz.prog 115 Tryz.f16.results.toList (Tryz.f16.body.getD .skip) (hostlaw_World_Untouched.RV R) [([(0, [1, 0, 1, 0, 0, 1, 0, 0, 1, 1, 0, 0]), (2, [1, 0, 1, 0, 0, 1, 0, 0, 1, 1, 0, 0]), (1, [2]), (1, [1]), (0, [1, 0, 1, 0, 0, 1, 1]), (2, [1, 0, 1, 0, 0]), (1, [0]), (0, [1, 1])], fun σ w => dP (slotOf σ 0) fun w0_ => dI .i64 (slotOf σ 3) fun j_ => dL (slotOf σ 4) fun token_b_ token_l_ token_c_ => dI .i64 (slotOf σ 5) fun i_ => sL2 w0_ j_ token_b_ token_l_ token_c_ i_ w),
    ([(0, [1, 1, 0, 1, 0, 0]), (2, [1, 1, 0, 1, 0, 0]), (1, [4]), (0, [1, 1, 1])], fun σ w => dP (slotOf σ 0) fun w0_ => dI .i64 (slotOf σ 6) fun j_ => sL3 w0_ j_ w)] 2000) [(0, [1, 0, 1, 0, 0]), (2, [1, 0, 1, 0, 0]), (1, [0]), (0, [1, 1])] [(0, .pointer w0), (3, .int .i64 j)] w := by kernel_rfl
theorem hostlaw_World_Untouched.L1b_sound {R : Bool → World → Prop} {N1 : Option Addr → Int → World → Prop} (hN1 : ∀ w0 j w, N1 w0 j w → KW Tryz.prog 16 115 (hostlaw_World_Untouched.RV R) ([(0, [1, 0, 1, 0, 0]), (2, [1, 0, 1, 0, 0]), (1, [0]), (0, [1, 1])].map (toItem (Tryz.f16.body.getD .skip))) [(0, .pointer w0), (3, .int .i64 j)] w) (w0 : Option Addr) (j : Int) (w : World) (h : hostlaw_World_Untouched.L1b w0 j w  N1 R) :
    KW Tryz.prog 16 115 (hostlaw_World_Untouched.RV R) ([(0, [1, 0, 1, 0, 0]), (2, [1, 0, 1, 0, 0]), (1, [0]), (0, [1, 1])].map (toItem (Tryz.f16.body.getD .skip))) [(0, .pointer w0), (3, .int .i64 j)] w := by
  exact block_spec Tryz.func16 Tryz.mixed (stops_cons (fun σ w h => by
      obtain ⟨w0_, e0, h⟩ := dP_elim h
      obtain ⟨j_, e1, h⟩ := dI_elim h
      obtain ⟨token_b_, token_l_, token_c_, e2, h⟩ := dL_elim h
      obtain ⟨i_, e3, h⟩ := dI_elim h
      exact (hostlaw_World_Untouched.L2_sound hN1 w0_ j_ token_b_ token_l_ token_c_ i_ w h).weaken (Sub.cons (Sub.cons (Sub.cons (Sub.cons (Sub.nil _) e3) e2) e1) e0)) (stops_cons (fun σ w h => by
      obtain ⟨w0_, e0, h⟩ := dP_elim h
      obtain ⟨j_, e1, h⟩ := dI_elim h
      exact (hostlaw_World_Untouched.L3_sound  w0_ j_ w h).weaken (Sub.cons (Sub.cons (Sub.nil _) e1) e0)) stops_nil)) (Eq.mp (hostlaw_World_Untouched.L1b_eq w0 j w  N1 R (fun w0_ j_ token_b_ token_l_ token_c_ i_ w => hostlaw_World_Untouched.L2 w0_ j_ token_b_ token_l_ token_c_ i_ w N1 R) (fun w0_ j_ w => hostlaw_World_Untouched.L3 w0_ j_ w  R)) h)
def hostlaw_World_Untouched.L1 (w0 : Option Addr) (j : Int) (w : World)  (R : Bool → World → Prop) : Prop :=
  ∃ (I : Nat → Option Addr → Int → World → Prop) (m : Nat), I m w0 j w ∧ ∀ m w0 j w, I m w0 j w → hostlaw_World_Untouched.L1b w0 j w  (fun w0' j' w' => ∃ m', m' < m ∧ I m' w0' j' w') R
theorem hostlaw_World_Untouched.L1_sound {R : Bool → World → Prop}  (w0 : Option Addr) (j : Int) (w : World) (h : hostlaw_World_Untouched.L1 w0 j w  R) :
    KW Tryz.prog 16 115 (hostlaw_World_Untouched.RV R) ([(0, [1, 0, 1, 0, 0]), (2, [1, 0, 1, 0, 0]), (1, [0]), (0, [1, 1])].map (toItem (Tryz.f16.body.getD .skip))) [(0, .pointer w0), (3, .int .i64 j)] w := by
  obtain ⟨I, m, hBase, hr⟩ := h
  refine KW.loop (fun m σ w => ∃ (w0 : Option Addr) (j : Int), σ = [(0, .pointer w0), (3, .int .i64 j)] ∧ I m w0 j w) ?_ m _ w ⟨w0, j, rfl, hBase⟩
  rintro m ih σ w ⟨w0, j, rfl, hI⟩
  exact hostlaw_World_Untouched.L1b_sound  (N1 := fun w0' j' w' => ∃ m', m' < m ∧ I m' w0' j' w') (fun w0' j' w' hx => by obtain ⟨m', hlt, hI'⟩ := hx; exact ih m' hlt _ w' ⟨w0', j', rfl, hI'⟩) w0 j w (hr m w0 j w hI)
def hostlaw_World_Untouched.B0 (w0 : Option Addr) (w : World)   (R : Bool → World → Prop) : Prop :=
  hostlaw_World_Untouched.L1 w0 (0 : Int) w  R
theorem hostlaw_World_Untouched.B0_eq (w0 : Option Addr) (w : World)   (R : Bool → World → Prop) (sL1 : Option Addr → Int → World → Prop) :
    (
  sL1 w0 (0 : Int) w) = kstep Tryz.prog 115 Tryz.f16.results.toList (Tryz.f16.body.getD .skip) (hostlaw_World_Untouched.RV R) (kvc Tryz.prog 115 Tryz.f16.results.toList (Tryz.f16.body.getD .skip) (hostlaw_World_Untouched.RV R) [([(0, [1, 0, 1, 0, 0]), (2, [1, 0, 1, 0, 0]), (1, [0]), (0, [1, 1])], fun σ w => dP (slotOf σ 0) fun w0_ => dI .i64 (slotOf σ 3) fun j_ => sL1 w0_ j_ w)] 2000) [(0, [])] [(0, .pointer w0)] w := by kernel_rfl
theorem hostlaw_World_Untouched.B0_sound {R : Bool → World → Prop}  (w0 : Option Addr) (w : World) (h : hostlaw_World_Untouched.B0 w0 w   R) :
    KW Tryz.prog 16 115 (hostlaw_World_Untouched.RV R) ([(0, [])].map (toItem (Tryz.f16.body.getD .skip))) [(0, .pointer w0)] w := by
  exact block_spec Tryz.func16 Tryz.mixed (stops_cons (fun σ w h => by
      obtain ⟨w0_, e0, h⟩ := dP_elim h
      obtain ⟨j_, e1, h⟩ := dI_elim h
      exact (hostlaw_World_Untouched.L1_sound  w0_ j_ w h).weaken (Sub.cons (Sub.cons (Sub.nil _) e1) e0)) stops_nil) (Eq.mp (hostlaw_World_Untouched.B0_eq w0 w   R (fun w0_ j_ w => hostlaw_World_Untouched.L1 w0_ j_ w  R)) h)
theorem hostlaw_World_Untouched.sound (w0 : Option Addr) (w : World) (R : Bool → World → Prop) (h : hostlaw_World_Untouched.B0 w0 w R) : hostlaw_World_Untouched.Call w0 w R := by
  have hc := calls_of_block (args := #[.pointer w0]) Tryz.func16 (body := (Tryz.f16.body.getD .skip)) (by kernel_rfl) (by kernel_rfl) (args_slot _) (hostlaw_World_Untouched.B0_sound w0 w h)
  exact hc.mono fun e w' he => by
    obtain ⟨v, rfl, hv⟩ := he
    exact hostlaw_World_Untouched.RV_elim hv
def hostm_Net_Settled.B3 (n : Option Addr) (i : Int) (w : World) (N1 : Option Addr → Int → World → Prop)  (R : Bool → World → Prop) : Prop :=
  N1 n (IntKind.i64.wrap (i + (1 : Int))) w
theorem hostm_Net_Settled.B3_eq (n : Option Addr) (i : Int) (w : World) (N1 : Option Addr → Int → World → Prop)  (R : Bool → World → Prop)  :
    (
  N1 n (IntKind.i64.wrap (i + (1 : Int))) w) = kstep Tryz.prog 172 Tryz.f17.results.toList (Tryz.f17.body.getD .skip) (hostm_Net_Settled.RV R) (kvc Tryz.prog 172 Tryz.f17.results.toList (Tryz.f17.body.getD .skip) (hostm_Net_Settled.RV R) [([(0, [1, 0, 1, 0, 0]), (2, [1, 0, 1, 0, 0]), (1, [0]), (0, [1, 1])], fun σ w => dP (slotOf σ 0) fun n_ => dI .i64 (slotOf σ 3) fun i_ => N1 n_ i_ w)] 2000) [(0, [1, 0, 1, 0, 0, 1, 1]), (2, [1, 0, 1, 0, 0]), (1, [0]), (0, [1, 1])] [(0, .pointer n), (3, .int .i64 i)] w := by kernel_rfl
theorem hostm_Net_Settled.B3_sound {R : Bool → World → Prop} {N1 : Option Addr → Int → World → Prop} (hN1 : ∀ n i w, N1 n i w → KW Tryz.prog 17 172 (hostm_Net_Settled.RV R) ([(0, [1, 0, 1, 0, 0]), (2, [1, 0, 1, 0, 0]), (1, [0]), (0, [1, 1])].map (toItem (Tryz.f17.body.getD .skip))) [(0, .pointer n), (3, .int .i64 i)] w) (n : Option Addr) (i : Int) (w : World) (h : hostm_Net_Settled.B3 n i w N1  R) :
    KW Tryz.prog 17 172 (hostm_Net_Settled.RV R) ([(0, [1, 0, 1, 0, 0, 1, 1]), (2, [1, 0, 1, 0, 0]), (1, [0]), (0, [1, 1])].map (toItem (Tryz.f17.body.getD .skip))) [(0, .pointer n), (3, .int .i64 i)] w := by
  exact block_spec Tryz.func17 Tryz.mixed (stops_cons (fun σ w h => by
      obtain ⟨n_, e0, h⟩ := dP_elim h
      obtain ⟨i_, e1, h⟩ := dI_elim h
      exact (hN1 n_ i_ w h).weaken (Sub.cons (Sub.cons (Sub.nil _) e1) e0)) stops_nil) (Eq.mp (hostm_Net_Settled.B3_eq n i w N1  R ) h)
def hostm_Net_Settled.B6 (n : Option Addr) (i : Int) (t171 : Bool) (w : World) (N1 : Option Addr → Int → World → Prop)  (R : Bool → World → Prop) : Prop :=
  Bm t171 (
    R false w) (
    hostm_Net_Settled.B3 n i w N1 R)
theorem hostm_Net_Settled.B6_eq (n : Option Addr) (i : Int) (t171 : Bool) (w : World) (N1 : Option Addr → Int → World → Prop)  (R : Bool → World → Prop) (sB3 : Option Addr → Int → World → Prop) :
    (
  Bm t171 (
    R false w) (
    sB3 n i w)) = kstep Tryz.prog 172 Tryz.f17.results.toList (Tryz.f17.body.getD .skip) (hostm_Net_Settled.RV R) (kvc Tryz.prog 172 Tryz.f17.results.toList (Tryz.f17.body.getD .skip) (hostm_Net_Settled.RV R) [([(0, [1, 0, 1, 0, 0, 1, 1]), (2, [1, 0, 1, 0, 0]), (1, [0]), (0, [1, 1])], fun σ w => dP (slotOf σ 0) fun n_ => dI .i64 (slotOf σ 3) fun i_ => sB3 n_ i_ w)] 2000) [(0, [1, 0, 1, 0, 0, 1, 0, 0, 1, 1, 1, 1, 1, 1, 1, 1, 1, 1]), (1, [1]), (0, [1, 0, 1, 0, 0, 1, 1]), (2, [1, 0, 1, 0, 0]), (1, [0]), (0, [1, 1])] [(0, .pointer n), (3, .int .i64 i), (171, .bool t171)] w := by kernel_rfl
theorem hostm_Net_Settled.B6_sound {R : Bool → World → Prop} {N1 : Option Addr → Int → World → Prop} (hN1 : ∀ n i w, N1 n i w → KW Tryz.prog 17 172 (hostm_Net_Settled.RV R) ([(0, [1, 0, 1, 0, 0]), (2, [1, 0, 1, 0, 0]), (1, [0]), (0, [1, 1])].map (toItem (Tryz.f17.body.getD .skip))) [(0, .pointer n), (3, .int .i64 i)] w) (n : Option Addr) (i : Int) (t171 : Bool) (w : World) (h : hostm_Net_Settled.B6 n i t171 w N1  R) :
    KW Tryz.prog 17 172 (hostm_Net_Settled.RV R) ([(0, [1, 0, 1, 0, 0, 1, 0, 0, 1, 1, 1, 1, 1, 1, 1, 1, 1, 1]), (1, [1]), (0, [1, 0, 1, 0, 0, 1, 1]), (2, [1, 0, 1, 0, 0]), (1, [0]), (0, [1, 1])].map (toItem (Tryz.f17.body.getD .skip))) [(0, .pointer n), (3, .int .i64 i), (171, .bool t171)] w := by
  exact block_spec Tryz.func17 Tryz.mixed (stops_cons (fun σ w h => by
      obtain ⟨n_, e0, h⟩ := dP_elim h
      obtain ⟨i_, e1, h⟩ := dI_elim h
      exact (hostm_Net_Settled.B3_sound hN1 n_ i_ w h).weaken (Sub.cons (Sub.cons (Sub.nil _) e1) e0)) stops_nil) (Eq.mp (hostm_Net_Settled.B6_eq n i t171 w N1  R (fun n_ i_ w => hostm_Net_Settled.B3 n_ i_ w N1 R)) h)
def hostm_Net_Settled.B5 (n : Option Addr) (i p : Int) (t142 : Bool) (w : World) (N1 : Option Addr → Int → World → Prop)  (R : Bool → World → Prop) : Prop :=
  Bm t142 (
    R false w) (
    Pn n fun a =>
    LdL a w fun x146_b x146_l x146_c =>
    Pn x146_b fun a_1 =>
    (0 ≤ i ∧ i < ((x146_l : Nat) : Int)) ∧
    LdB ((Addr.add a_1 (i.toNat * 16)).add 13) w fun x150 =>
    Bm x150 (
      Pn n fun a_2 =>
      LdL a_2 w fun x155_b x155_l x155_c =>
      Pn x155_b fun a_3 =>
      (0 ≤ p ∧ p < ((x155_l : Nat) : Int)) ∧
      LdB ((Addr.add a_3 (p.toNat * 16)).add 13) w fun x159 =>
      Bm x159 (
        Pn n fun a_4 =>
        LdL a_4 w fun x165_b x165_l x165_c =>
        Pn x165_b fun a_5 =>
        (0 ≤ i ∧ i < ((x165_l : Nat) : Int)) ∧
        LdI .i64 ((Addr.add a_5 (i.toNat * 16)).add 10) w fun x169 =>
        hostm_Net_Settled.B6 n i (x169 != (4 : Int)) w N1 R) (
        hostm_Net_Settled.B6 n i false w N1 R)) (
      hostm_Net_Settled.B6 n i false w N1 R))
theorem hostm_Net_Settled.B5_eq (n : Option Addr) (i p : Int) (t142 : Bool) (w : World) (N1 : Option Addr → Int → World → Prop)  (R : Bool → World → Prop) (sB6 : Option Addr → Int → Bool → World → Prop) :
    (
  Bm t142 (
    R false w) (
    Pn n fun a =>
    LdL a w fun x146_b x146_l x146_c =>
    Pn x146_b fun a_1 =>
    (0 ≤ i ∧ i < ((x146_l : Nat) : Int)) ∧
    LdB ((Addr.add a_1 (i.toNat * 16)).add 13) w fun x150 =>
    Bm x150 (
      Pn n fun a_2 =>
      LdL a_2 w fun x155_b x155_l x155_c =>
      Pn x155_b fun a_3 =>
      (0 ≤ p ∧ p < ((x155_l : Nat) : Int)) ∧
      LdB ((Addr.add a_3 (p.toNat * 16)).add 13) w fun x159 =>
      Bm x159 (
        Pn n fun a_4 =>
        LdL a_4 w fun x165_b x165_l x165_c =>
        Pn x165_b fun a_5 =>
        (0 ≤ i ∧ i < ((x165_l : Nat) : Int)) ∧
        LdI .i64 ((Addr.add a_5 (i.toNat * 16)).add 10) w fun x169 =>
        sB6 n i (x169 != (4 : Int)) w) (
        sB6 n i false w)) (
      sB6 n i false w))) = kstep Tryz.prog 172 Tryz.f17.results.toList (Tryz.f17.body.getD .skip) (hostm_Net_Settled.RV R) (kvc Tryz.prog 172 Tryz.f17.results.toList (Tryz.f17.body.getD .skip) (hostm_Net_Settled.RV R) [([(0, [1, 0, 1, 0, 0, 1, 0, 0, 1, 1, 1, 1, 1, 1, 1, 1, 1, 1]), (1, [1]), (0, [1, 0, 1, 0, 0, 1, 1]), (2, [1, 0, 1, 0, 0]), (1, [0]), (0, [1, 1])], fun σ w => dP (slotOf σ 0) fun n_ => dI .i64 (slotOf σ 3) fun i_ => dB (slotOf σ 171) fun t171_ => sB6 n_ i_ t171_ w)] 2000) [(0, [1, 0, 1, 0, 0, 1, 0, 0, 1, 1, 1, 1, 1, 1, 1, 1, 0, 1]), (0, [1, 0, 1, 0, 0, 1, 0, 0, 1, 1, 1, 1, 1, 1, 1, 1, 1]), (1, [1]), (0, [1, 0, 1, 0, 0, 1, 1]), (2, [1, 0, 1, 0, 0]), (1, [0]), (0, [1, 1])] [(0, .pointer n), (3, .int .i64 i), (4, .int .i64 p), (142, .bool t142)] w := by kernel_rfl
theorem hostm_Net_Settled.B5_sound {R : Bool → World → Prop} {N1 : Option Addr → Int → World → Prop} (hN1 : ∀ n i w, N1 n i w → KW Tryz.prog 17 172 (hostm_Net_Settled.RV R) ([(0, [1, 0, 1, 0, 0]), (2, [1, 0, 1, 0, 0]), (1, [0]), (0, [1, 1])].map (toItem (Tryz.f17.body.getD .skip))) [(0, .pointer n), (3, .int .i64 i)] w) (n : Option Addr) (i p : Int) (t142 : Bool) (w : World) (h : hostm_Net_Settled.B5 n i p t142 w N1  R) :
    KW Tryz.prog 17 172 (hostm_Net_Settled.RV R) ([(0, [1, 0, 1, 0, 0, 1, 0, 0, 1, 1, 1, 1, 1, 1, 1, 1, 0, 1]), (0, [1, 0, 1, 0, 0, 1, 0, 0, 1, 1, 1, 1, 1, 1, 1, 1, 1]), (1, [1]), (0, [1, 0, 1, 0, 0, 1, 1]), (2, [1, 0, 1, 0, 0]), (1, [0]), (0, [1, 1])].map (toItem (Tryz.f17.body.getD .skip))) [(0, .pointer n), (3, .int .i64 i), (4, .int .i64 p), (142, .bool t142)] w := by
  exact block_spec Tryz.func17 Tryz.mixed (stops_cons (fun σ w h => by
      obtain ⟨n_, e0, h⟩ := dP_elim h
      obtain ⟨i_, e1, h⟩ := dI_elim h
      obtain ⟨t171_, e2, h⟩ := dB_elim h
      exact (hostm_Net_Settled.B6_sound hN1 n_ i_ t171_ w h).weaken (Sub.cons (Sub.cons (Sub.cons (Sub.nil _) e2) e1) e0)) stops_nil) (Eq.mp (hostm_Net_Settled.B5_eq n i p t142 w N1  R (fun n_ i_ t171_ w => hostm_Net_Settled.B6 n_ i_ t171_ w N1 R)) h)
def hostm_Net_Settled.B4 (n : Option Addr) (i p want : Int) (w : World) (N1 : Option Addr → Int → World → Prop)  (R : Bool → World → Prop) : Prop :=
  Pn n fun a =>
  LdL a w fun x97_b x97_l x97_c =>
  Pn x97_b fun a_1 =>
  (0 ≤ i ∧ i < ((x97_l : Nat) : Int)) ∧
  LdI .i64 ((Addr.add a_1 (i.toNat * 16)).add 9) w fun x101 =>
  Bm (decide (x101 < want)) (
    R false w) (
    Pn n fun a_2 =>
    LdL a_2 w.drew fun x107_b x107_l x107_c =>
    Pn x107_b fun a_3 =>
    (0 ≤ p ∧ p < ((x107_l : Nat) : Int)) ∧
    LdB ((Addr.add a_3 (p.toNat * 16)).add 12) w.drew fun x111 =>
    Bm x111 (
      Pn n fun a_4 =>
      LdL a_4 w.drew fun x116_b x116_l x116_c =>
      Pn x116_b fun a_5 =>
      (0 ≤ i ∧ i < ((x116_l : Nat) : Int)) ∧
      LdI .i64 ((Addr.add a_5 (i.toNat * 16)).add 9) w.drew fun x120 =>
      Pn n fun a_6 =>
      LdL a_6 w.drew fun x124_b x124_l x124_c =>
      Pn x124_b fun a_7 =>
      (0 ≤ p ∧ p < ((x124_l : Nat) : Int)) ∧
      LdL ((Addr.add a_7 (p.toNat * 16)).add 7) w.drew fun x128_b x128_l x128_c =>
      Bm (x120 == ((x128_l : Nat) : Int)) (
        Pn n fun a_8 =>
        LdL a_8 w.drew fun x136_b x136_l x136_c =>
        Pn x136_b fun a_9 =>
        (0 ≤ i ∧ i < ((x136_l : Nat) : Int)) ∧
        LdB ((Addr.add a_9 (i.toNat * 16)).add 13) w.drew fun x140 =>
        hostm_Net_Settled.B5 n i p (!x140) w.drew N1 R) (
        hostm_Net_Settled.B5 n i p false w.drew N1 R)) (
      hostm_Net_Settled.B5 n i p false w.drew N1 R))
theorem hostm_Net_Settled.B4_eq (n : Option Addr) (i p want : Int) (w : World) (N1 : Option Addr → Int → World → Prop)  (R : Bool → World → Prop) (sB5 : Option Addr → Int → Int → Bool → World → Prop) :
    (
  Pn n fun a =>
  LdL a w fun x97_b x97_l x97_c =>
  Pn x97_b fun a_1 =>
  (0 ≤ i ∧ i < ((x97_l : Nat) : Int)) ∧
  LdI .i64 ((Addr.add a_1 (i.toNat * 16)).add 9) w fun x101 =>
  Bm (decide (x101 < want)) (
    R false w) (
    Pn n fun a_2 =>
    LdL a_2 w.drew fun x107_b x107_l x107_c =>
    Pn x107_b fun a_3 =>
    (0 ≤ p ∧ p < ((x107_l : Nat) : Int)) ∧
    LdB ((Addr.add a_3 (p.toNat * 16)).add 12) w.drew fun x111 =>
    Bm x111 (
      Pn n fun a_4 =>
      LdL a_4 w.drew fun x116_b x116_l x116_c =>
      Pn x116_b fun a_5 =>
      (0 ≤ i ∧ i < ((x116_l : Nat) : Int)) ∧
      LdI .i64 ((Addr.add a_5 (i.toNat * 16)).add 9) w.drew fun x120 =>
      Pn n fun a_6 =>
      LdL a_6 w.drew fun x124_b x124_l x124_c =>
      Pn x124_b fun a_7 =>
      (0 ≤ p ∧ p < ((x124_l : Nat) : Int)) ∧
      LdL ((Addr.add a_7 (p.toNat * 16)).add 7) w.drew fun x128_b x128_l x128_c =>
      Bm (x120 == ((x128_l : Nat) : Int)) (
        Pn n fun a_8 =>
        LdL a_8 w.drew fun x136_b x136_l x136_c =>
        Pn x136_b fun a_9 =>
        (0 ≤ i ∧ i < ((x136_l : Nat) : Int)) ∧
        LdB ((Addr.add a_9 (i.toNat * 16)).add 13) w.drew fun x140 =>
        sB5 n i p (!x140) w.drew) (
        sB5 n i p false w.drew)) (
      sB5 n i p false w.drew))) = kstep Tryz.prog 172 Tryz.f17.results.toList (Tryz.f17.body.getD .skip) (hostm_Net_Settled.RV R) (kvc Tryz.prog 172 Tryz.f17.results.toList (Tryz.f17.body.getD .skip) (hostm_Net_Settled.RV R) [([(0, [1, 0, 1, 0, 0, 1, 0, 0, 1, 1, 1, 1, 1, 1, 1, 1, 0, 1]), (0, [1, 0, 1, 0, 0, 1, 0, 0, 1, 1, 1, 1, 1, 1, 1, 1, 1]), (1, [1]), (0, [1, 0, 1, 0, 0, 1, 1]), (2, [1, 0, 1, 0, 0]), (1, [0]), (0, [1, 1])], fun σ w => dP (slotOf σ 0) fun n_ => dI .i64 (slotOf σ 3) fun i_ => dI .i64 (slotOf σ 4) fun p_ => dB (slotOf σ 142) fun t142_ => sB5 n_ i_ p_ t142_ w)] 2000) [(0, [1, 0, 1, 0, 0, 1, 0, 0, 1, 1, 1, 1, 1, 1, 1]), (1, [1]), (0, [1, 0, 1, 0, 0, 1, 1]), (2, [1, 0, 1, 0, 0]), (1, [0]), (0, [1, 1])] [(0, .pointer n), (3, .int .i64 i), (4, .int .i64 p), (5, .int .i64 want)] w := by kernel_rfl
theorem hostm_Net_Settled.B4_sound {R : Bool → World → Prop} {N1 : Option Addr → Int → World → Prop} (hN1 : ∀ n i w, N1 n i w → KW Tryz.prog 17 172 (hostm_Net_Settled.RV R) ([(0, [1, 0, 1, 0, 0]), (2, [1, 0, 1, 0, 0]), (1, [0]), (0, [1, 1])].map (toItem (Tryz.f17.body.getD .skip))) [(0, .pointer n), (3, .int .i64 i)] w) (n : Option Addr) (i p want : Int) (w : World) (h : hostm_Net_Settled.B4 n i p want w N1  R) :
    KW Tryz.prog 17 172 (hostm_Net_Settled.RV R) ([(0, [1, 0, 1, 0, 0, 1, 0, 0, 1, 1, 1, 1, 1, 1, 1]), (1, [1]), (0, [1, 0, 1, 0, 0, 1, 1]), (2, [1, 0, 1, 0, 0]), (1, [0]), (0, [1, 1])].map (toItem (Tryz.f17.body.getD .skip))) [(0, .pointer n), (3, .int .i64 i), (4, .int .i64 p), (5, .int .i64 want)] w := by
  exact block_spec Tryz.func17 Tryz.mixed (stops_cons (fun σ w h => by
      obtain ⟨n_, e0, h⟩ := dP_elim h
      obtain ⟨i_, e1, h⟩ := dI_elim h
      obtain ⟨p_, e2, h⟩ := dI_elim h
      obtain ⟨t142_, e3, h⟩ := dB_elim h
      exact (hostm_Net_Settled.B5_sound hN1 n_ i_ p_ t142_ w h).weaken (Sub.cons (Sub.cons (Sub.cons (Sub.cons (Sub.nil _) e3) e2) e1) e0)) stops_nil) (Eq.mp (hostm_Net_Settled.B4_eq n i p want w N1  R (fun n_ i_ p_ t142_ w => hostm_Net_Settled.B5 n_ i_ p_ t142_ w N1 R)) h)
def hostm_Net_Settled.B2 (n : Option Addr) (i p : Int) (t49 : Bool) (w : World) (N1 : Option Addr → Int → World → Prop)  (R : Bool → World → Prop) : Prop :=
  Bm t49 (
    hostm_Net_Settled.B3 n i w N1 R) (
    Pn n fun a =>
    LdL a w fun x53_b x53_l x53_c =>
    Pn x53_b fun a_1 =>
    (0 ≤ p ∧ p < ((x53_l : Nat) : Int)) ∧
    LdI .i64 ((Addr.add a_1 (p.toNat * 16)).add 6) w fun x57 =>
    Bm (x57 != i) (
      hostm_Net_Settled.B3 n i w N1 R) (
      hostm_Net_failed.Call n p w fun r62 w1 =>
      Bm r62 (
        hostm_Net_Settled.B3 n i w1 N1 R) (
        Pn n fun a_2 =>
        LdL a_2 w1 fun x66_b x66_l x66_c =>
        Pn x66_b fun a_3 =>
        (0 ≤ p ∧ p < ((x66_l : Nat) : Int)) ∧
        LdL ((Addr.add a_3 (p.toNat * 16)).add 7) w1 fun x70_b x70_l x70_c =>
        Pn n fun a_4 =>
        LdL a_4 w1 fun x76_b x76_l x76_c =>
        Pn x76_b fun a_5 =>
        (0 ≤ i ∧ i < ((x76_l : Nat) : Int)) ∧
        LdL ((Addr.add a_5 (i.toNat * 16)).add 8) w1 fun x80_b x80_l x80_c =>
        Bm (decide (((x70_l : Nat) : Int) > (IntKind.i64.wrap (((x80_l : Nat) : Int) + (16 : Int))))) (
          Pn n fun a_6 =>
          LdL a_6 w1 fun x87_b x87_l x87_c =>
          Pn x87_b fun a_7 =>
          (0 ≤ i ∧ i < ((x87_l : Nat) : Int)) ∧
          LdL ((Addr.add a_7 (i.toNat * 16)).add 8) w1 fun x91_b x91_l x91_c =>
          hostm_Net_Settled.B4 n i p (IntKind.i64.wrap (((x91_l : Nat) : Int) + (16 : Int))) w1 N1 R) (
          hostm_Net_Settled.B4 n i p ((x70_l : Nat) : Int) w1 N1 R))))
theorem hostm_Net_Settled.B2_eq (n : Option Addr) (i p : Int) (t49 : Bool) (w : World) (N1 : Option Addr → Int → World → Prop)  (R : Bool → World → Prop) (sB3 : Option Addr → Int → World → Prop) (sB4 : Option Addr → Int → Int → Int → World → Prop) :
    (
  Bm t49 (
    sB3 n i w) (
    Pn n fun a =>
    LdL a w fun x53_b x53_l x53_c =>
    Pn x53_b fun a_1 =>
    (0 ≤ p ∧ p < ((x53_l : Nat) : Int)) ∧
    LdI .i64 ((Addr.add a_1 (p.toNat * 16)).add 6) w fun x57 =>
    Bm (x57 != i) (
      sB3 n i w) (
      hostm_Net_failed.Call n p w fun r62 w1 =>
      Bm r62 (
        sB3 n i w1) (
        Pn n fun a_2 =>
        LdL a_2 w1 fun x66_b x66_l x66_c =>
        Pn x66_b fun a_3 =>
        (0 ≤ p ∧ p < ((x66_l : Nat) : Int)) ∧
        LdL ((Addr.add a_3 (p.toNat * 16)).add 7) w1 fun x70_b x70_l x70_c =>
        Pn n fun a_4 =>
        LdL a_4 w1 fun x76_b x76_l x76_c =>
        Pn x76_b fun a_5 =>
        (0 ≤ i ∧ i < ((x76_l : Nat) : Int)) ∧
        LdL ((Addr.add a_5 (i.toNat * 16)).add 8) w1 fun x80_b x80_l x80_c =>
        Bm (decide (((x70_l : Nat) : Int) > (IntKind.i64.wrap (((x80_l : Nat) : Int) + (16 : Int))))) (
          Pn n fun a_6 =>
          LdL a_6 w1 fun x87_b x87_l x87_c =>
          Pn x87_b fun a_7 =>
          (0 ≤ i ∧ i < ((x87_l : Nat) : Int)) ∧
          LdL ((Addr.add a_7 (i.toNat * 16)).add 8) w1 fun x91_b x91_l x91_c =>
          sB4 n i p (IntKind.i64.wrap (((x91_l : Nat) : Int) + (16 : Int))) w1) (
          sB4 n i p ((x70_l : Nat) : Int) w1))))) = kstep Tryz.prog 172 Tryz.f17.results.toList (Tryz.f17.body.getD .skip) (hostm_Net_Settled.RV R) (kvc Tryz.prog 172 Tryz.f17.results.toList (Tryz.f17.body.getD .skip) (hostm_Net_Settled.RV R) [([(0, [1, 0, 1, 0, 0, 1, 1]), (2, [1, 0, 1, 0, 0]), (1, [0]), (0, [1, 1])], fun σ w => dP (slotOf σ 0) fun n_ => dI .i64 (slotOf σ 3) fun i_ => sB3 n_ i_ w),
    ([(0, [1, 0, 1, 0, 0, 1, 0, 0, 1, 1, 1, 1, 1, 1, 1]), (1, [1]), (0, [1, 0, 1, 0, 0, 1, 1]), (2, [1, 0, 1, 0, 0]), (1, [0]), (0, [1, 1])], fun σ w => dP (slotOf σ 0) fun n_ => dI .i64 (slotOf σ 3) fun i_ => dI .i64 (slotOf σ 4) fun p_ => dI .i64 (slotOf σ 5) fun want_ => sB4 n_ i_ p_ want_ w)] 2000) [(0, [1, 0, 1, 0, 0, 1, 0, 0, 1, 1, 0, 1]), (0, [1, 0, 1, 0, 0, 1, 0, 0, 1, 1, 1]), (1, [1]), (0, [1, 0, 1, 0, 0, 1, 1]), (2, [1, 0, 1, 0, 0]), (1, [0]), (0, [1, 1])] [(0, .pointer n), (3, .int .i64 i), (4, .int .i64 p), (49, .bool t49)] w := by kernel_rfl
theorem hostm_Net_Settled.B2_sound {R : Bool → World → Prop} {N1 : Option Addr → Int → World → Prop} (hN1 : ∀ n i w, N1 n i w → KW Tryz.prog 17 172 (hostm_Net_Settled.RV R) ([(0, [1, 0, 1, 0, 0]), (2, [1, 0, 1, 0, 0]), (1, [0]), (0, [1, 1])].map (toItem (Tryz.f17.body.getD .skip))) [(0, .pointer n), (3, .int .i64 i)] w) (n : Option Addr) (i p : Int) (t49 : Bool) (w : World) (h : hostm_Net_Settled.B2 n i p t49 w N1  R) :
    KW Tryz.prog 17 172 (hostm_Net_Settled.RV R) ([(0, [1, 0, 1, 0, 0, 1, 0, 0, 1, 1, 0, 1]), (0, [1, 0, 1, 0, 0, 1, 0, 0, 1, 1, 1]), (1, [1]), (0, [1, 0, 1, 0, 0, 1, 1]), (2, [1, 0, 1, 0, 0]), (1, [0]), (0, [1, 1])].map (toItem (Tryz.f17.body.getD .skip))) [(0, .pointer n), (3, .int .i64 i), (4, .int .i64 p), (49, .bool t49)] w := by
  exact block_spec Tryz.func17 Tryz.mixed (stops_cons (fun σ w h => by
      obtain ⟨n_, e0, h⟩ := dP_elim h
      obtain ⟨i_, e1, h⟩ := dI_elim h
      exact (hostm_Net_Settled.B3_sound hN1 n_ i_ w h).weaken (Sub.cons (Sub.cons (Sub.nil _) e1) e0)) (stops_cons (fun σ w h => by
      obtain ⟨n_, e0, h⟩ := dP_elim h
      obtain ⟨i_, e1, h⟩ := dI_elim h
      obtain ⟨p_, e2, h⟩ := dI_elim h
      obtain ⟨want_, e3, h⟩ := dI_elim h
      exact (hostm_Net_Settled.B4_sound hN1 n_ i_ p_ want_ w h).weaken (Sub.cons (Sub.cons (Sub.cons (Sub.cons (Sub.nil _) e3) e2) e1) e0)) stops_nil)) (Eq.mp (hostm_Net_Settled.B2_eq n i p t49 w N1  R (fun n_ i_ w => hostm_Net_Settled.B3 n_ i_ w N1 R) (fun n_ i_ p_ want_ w => hostm_Net_Settled.B4 n_ i_ p_ want_ w N1 R)) h)
def hostm_Net_Settled.B1 (n : Option Addr) (i : Int) (t34 : Bool) (w : World) (N1 : Option Addr → Int → World → Prop)  (R : Bool → World → Prop) : Prop :=
  Bm t34 (
    R false w) (
    Pn n fun a =>
    LdL a w fun x38_b x38_l x38_c =>
    Pn x38_b fun a_1 =>
    (0 ≤ i ∧ i < ((x38_l : Nat) : Int)) ∧
    LdI .i64 ((Addr.add a_1 (i.toNat * 16)).add 6) w fun x42 =>
    Bm (decide (x42 < (0 : Int))) (
      hostm_Net_Settled.B2 n i x42 true w N1 R) (
      hostm_Net_failed.Call n i w fun r48 w1 =>
      hostm_Net_Settled.B2 n i x42 r48 w1 N1 R))
theorem hostm_Net_Settled.B1_eq (n : Option Addr) (i : Int) (t34 : Bool) (w : World) (N1 : Option Addr → Int → World → Prop)  (R : Bool → World → Prop) (sB2 : Option Addr → Int → Int → Bool → World → Prop) :
    (
  Bm t34 (
    R false w) (
    Pn n fun a =>
    LdL a w fun x38_b x38_l x38_c =>
    Pn x38_b fun a_1 =>
    (0 ≤ i ∧ i < ((x38_l : Nat) : Int)) ∧
    LdI .i64 ((Addr.add a_1 (i.toNat * 16)).add 6) w fun x42 =>
    Bm (decide (x42 < (0 : Int))) (
      sB2 n i x42 true w) (
      hostm_Net_failed.Call n i w fun r48 w1 =>
      sB2 n i x42 r48 w1))) = kstep Tryz.prog 172 Tryz.f17.results.toList (Tryz.f17.body.getD .skip) (hostm_Net_Settled.RV R) (kvc Tryz.prog 172 Tryz.f17.results.toList (Tryz.f17.body.getD .skip) (hostm_Net_Settled.RV R) [([(0, [1, 0, 1, 0, 0, 1, 0, 0, 1, 1, 0, 1]), (0, [1, 0, 1, 0, 0, 1, 0, 0, 1, 1, 1]), (1, [1]), (0, [1, 0, 1, 0, 0, 1, 1]), (2, [1, 0, 1, 0, 0]), (1, [0]), (0, [1, 1])], fun σ w => dP (slotOf σ 0) fun n_ => dI .i64 (slotOf σ 3) fun i_ => dI .i64 (slotOf σ 4) fun p_ => dB (slotOf σ 49) fun t49_ => sB2 n_ i_ p_ t49_ w)] 2000) [(0, [1, 0, 1, 0, 0, 1, 0, 0, 0, 1]), (0, [1, 0, 1, 0, 0, 1, 0, 0, 1]), (1, [1]), (0, [1, 0, 1, 0, 0, 1, 1]), (2, [1, 0, 1, 0, 0]), (1, [0]), (0, [1, 1])] [(0, .pointer n), (3, .int .i64 i), (34, .bool t34)] w := by kernel_rfl
theorem hostm_Net_Settled.B1_sound {R : Bool → World → Prop} {N1 : Option Addr → Int → World → Prop} (hN1 : ∀ n i w, N1 n i w → KW Tryz.prog 17 172 (hostm_Net_Settled.RV R) ([(0, [1, 0, 1, 0, 0]), (2, [1, 0, 1, 0, 0]), (1, [0]), (0, [1, 1])].map (toItem (Tryz.f17.body.getD .skip))) [(0, .pointer n), (3, .int .i64 i)] w) (n : Option Addr) (i : Int) (t34 : Bool) (w : World) (h : hostm_Net_Settled.B1 n i t34 w N1  R) :
    KW Tryz.prog 17 172 (hostm_Net_Settled.RV R) ([(0, [1, 0, 1, 0, 0, 1, 0, 0, 0, 1]), (0, [1, 0, 1, 0, 0, 1, 0, 0, 1]), (1, [1]), (0, [1, 0, 1, 0, 0, 1, 1]), (2, [1, 0, 1, 0, 0]), (1, [0]), (0, [1, 1])].map (toItem (Tryz.f17.body.getD .skip))) [(0, .pointer n), (3, .int .i64 i), (34, .bool t34)] w := by
  exact block_spec Tryz.func17 Tryz.mixed (stops_cons (fun σ w h => by
      obtain ⟨n_, e0, h⟩ := dP_elim h
      obtain ⟨i_, e1, h⟩ := dI_elim h
      obtain ⟨p_, e2, h⟩ := dI_elim h
      obtain ⟨t49_, e3, h⟩ := dB_elim h
      exact (hostm_Net_Settled.B2_sound hN1 n_ i_ p_ t49_ w h).weaken (Sub.cons (Sub.cons (Sub.cons (Sub.cons (Sub.nil _) e3) e2) e1) e0)) stops_nil) (Eq.mp (hostm_Net_Settled.B1_eq n i t34 w N1  R (fun n_ i_ p_ t49_ w => hostm_Net_Settled.B2 n_ i_ p_ t49_ w N1 R)) h)
def hostm_Net_Settled.L1b (n : Option Addr) (i : Int) (w : World)  (N1 : Option Addr → Int → World → Prop) (R : Bool → World → Prop) : Prop :=
  Pn n fun a =>
  LdL a w fun x10_b x10_l x10_c =>
  Bm (decide (i < ((x10_l : Nat) : Int))) (
    Pn n fun a_1 =>
    LdL a_1 w fun x18_b x18_l x18_c =>
    Pn x18_b fun a_2 =>
    (0 ≤ i ∧ i < ((x18_l : Nat) : Int)) ∧
    LdI .i64 ((Addr.add a_2 (i.toNat * 16)).add 10) w fun x22 =>
    Bm (x22 == (1 : Int)) (
      hostm_Net_Settled.B1 n i true w N1 R) (
      Pn n fun a_3 =>
      LdL a_3 w fun x28_b x28_l x28_c =>
      Pn x28_b fun a_4 =>
      (0 ≤ i ∧ i < ((x28_l : Nat) : Int)) ∧
      LdI .i64 ((Addr.add a_4 (i.toNat * 16)).add 10) w fun x32 =>
      hostm_Net_Settled.B1 n i (x32 == (2 : Int)) w N1 R)) (
    R true w)
theorem hostm_Net_Settled.L1b_eq (n : Option Addr) (i : Int) (w : World)  (N1 : Option Addr → Int → World → Prop) (R : Bool → World → Prop) (sB1 : Option Addr → Int → Bool → World → Prop) :
    (
  Pn n fun a =>
  LdL a w fun x10_b x10_l x10_c =>
  Bm (decide (i < ((x10_l : Nat) : Int))) (
    Pn n fun a_1 =>
    LdL a_1 w fun x18_b x18_l x18_c =>
    Pn x18_b fun a_2 =>
    (0 ≤ i ∧ i < ((x18_l : Nat) : Int)) ∧
    LdI .i64 ((Addr.add a_2 (i.toNat * 16)).add 10) w fun x22 =>
    Bm (x22 == (1 : Int)) (
      sB1 n i true w) (
      Pn n fun a_3 =>
      LdL a_3 w fun x28_b x28_l x28_c =>
      Pn x28_b fun a_4 =>
      (0 ≤ i ∧ i < ((x28_l : Nat) : Int)) ∧
      LdI .i64 ((Addr.add a_4 (i.toNat * 16)).add 10) w fun x32 =>
      sB1 n i (x32 == (2 : Int)) w)) (
    R true w)) = kstep Tryz.prog 172 Tryz.f17.results.toList (Tryz.f17.body.getD .skip) (hostm_Net_Settled.RV R) (kvc Tryz.prog 172 Tryz.f17.results.toList (Tryz.f17.body.getD .skip) (hostm_Net_Settled.RV R) [([(0, [1, 0, 1, 0, 0, 1, 0, 0, 0, 1]), (0, [1, 0, 1, 0, 0, 1, 0, 0, 1]), (1, [1]), (0, [1, 0, 1, 0, 0, 1, 1]), (2, [1, 0, 1, 0, 0]), (1, [0]), (0, [1, 1])], fun σ w => dP (slotOf σ 0) fun n_ => dI .i64 (slotOf σ 3) fun i_ => dB (slotOf σ 34) fun t34_ => sB1 n_ i_ t34_ w)] 2000) [(0, [1, 0, 1, 0, 0]), (2, [1, 0, 1, 0, 0]), (1, [0]), (0, [1, 1])] [(0, .pointer n), (3, .int .i64 i)] w := by kernel_rfl
theorem hostm_Net_Settled.L1b_sound {R : Bool → World → Prop} {N1 : Option Addr → Int → World → Prop} (hN1 : ∀ n i w, N1 n i w → KW Tryz.prog 17 172 (hostm_Net_Settled.RV R) ([(0, [1, 0, 1, 0, 0]), (2, [1, 0, 1, 0, 0]), (1, [0]), (0, [1, 1])].map (toItem (Tryz.f17.body.getD .skip))) [(0, .pointer n), (3, .int .i64 i)] w) (n : Option Addr) (i : Int) (w : World) (h : hostm_Net_Settled.L1b n i w  N1 R) :
    KW Tryz.prog 17 172 (hostm_Net_Settled.RV R) ([(0, [1, 0, 1, 0, 0]), (2, [1, 0, 1, 0, 0]), (1, [0]), (0, [1, 1])].map (toItem (Tryz.f17.body.getD .skip))) [(0, .pointer n), (3, .int .i64 i)] w := by
  exact block_spec Tryz.func17 Tryz.mixed (stops_cons (fun σ w h => by
      obtain ⟨n_, e0, h⟩ := dP_elim h
      obtain ⟨i_, e1, h⟩ := dI_elim h
      obtain ⟨t34_, e2, h⟩ := dB_elim h
      exact (hostm_Net_Settled.B1_sound hN1 n_ i_ t34_ w h).weaken (Sub.cons (Sub.cons (Sub.cons (Sub.nil _) e2) e1) e0)) stops_nil) (Eq.mp (hostm_Net_Settled.L1b_eq n i w  N1 R (fun n_ i_ t34_ w => hostm_Net_Settled.B1 n_ i_ t34_ w N1 R)) h)
def hostm_Net_Settled.L1 (n : Option Addr) (i : Int) (w : World)  (R : Bool → World → Prop) : Prop :=
  ∃ (I : Nat → Option Addr → Int → World → Prop) (m : Nat), I m n i w ∧ ∀ m n i w, I m n i w → hostm_Net_Settled.L1b n i w  (fun n' i' w' => ∃ m', m' < m ∧ I m' n' i' w') R
theorem hostm_Net_Settled.L1_sound {R : Bool → World → Prop}  (n : Option Addr) (i : Int) (w : World) (h : hostm_Net_Settled.L1 n i w  R) :
    KW Tryz.prog 17 172 (hostm_Net_Settled.RV R) ([(0, [1, 0, 1, 0, 0]), (2, [1, 0, 1, 0, 0]), (1, [0]), (0, [1, 1])].map (toItem (Tryz.f17.body.getD .skip))) [(0, .pointer n), (3, .int .i64 i)] w := by
  obtain ⟨I, m, hBase, hr⟩ := h
  refine KW.loop (fun m σ w => ∃ (n : Option Addr) (i : Int), σ = [(0, .pointer n), (3, .int .i64 i)] ∧ I m n i w) ?_ m _ w ⟨n, i, rfl, hBase⟩
  rintro m ih σ w ⟨n, i, rfl, hI⟩
  exact hostm_Net_Settled.L1b_sound  (N1 := fun n' i' w' => ∃ m', m' < m ∧ I m' n' i' w') (fun n' i' w' hx => by obtain ⟨m', hlt, hI'⟩ := hx; exact ih m' hlt _ w' ⟨n', i', rfl, hI'⟩) n i w (hr m n i w hI)
def hostm_Net_Settled.B0 (n : Option Addr) (w : World)   (R : Bool → World → Prop) : Prop :=
  hostm_Net_Settled.L1 n (0 : Int) w  R
theorem hostm_Net_Settled.B0_eq (n : Option Addr) (w : World)   (R : Bool → World → Prop) (sL1 : Option Addr → Int → World → Prop) :
    (
  sL1 n (0 : Int) w) = kstep Tryz.prog 172 Tryz.f17.results.toList (Tryz.f17.body.getD .skip) (hostm_Net_Settled.RV R) (kvc Tryz.prog 172 Tryz.f17.results.toList (Tryz.f17.body.getD .skip) (hostm_Net_Settled.RV R) [([(0, [1, 0, 1, 0, 0]), (2, [1, 0, 1, 0, 0]), (1, [0]), (0, [1, 1])], fun σ w => dP (slotOf σ 0) fun n_ => dI .i64 (slotOf σ 3) fun i_ => sL1 n_ i_ w)] 2000) [(0, [])] [(0, .pointer n)] w := by kernel_rfl
theorem hostm_Net_Settled.B0_sound {R : Bool → World → Prop}  (n : Option Addr) (w : World) (h : hostm_Net_Settled.B0 n w   R) :
    KW Tryz.prog 17 172 (hostm_Net_Settled.RV R) ([(0, [])].map (toItem (Tryz.f17.body.getD .skip))) [(0, .pointer n)] w := by
  exact block_spec Tryz.func17 Tryz.mixed (stops_cons (fun σ w h => by
      obtain ⟨n_, e0, h⟩ := dP_elim h
      obtain ⟨i_, e1, h⟩ := dI_elim h
      exact (hostm_Net_Settled.L1_sound  n_ i_ w h).weaken (Sub.cons (Sub.cons (Sub.nil _) e1) e0)) stops_nil) (Eq.mp (hostm_Net_Settled.B0_eq n w   R (fun n_ i_ w => hostm_Net_Settled.L1 n_ i_ w  R)) h)
theorem hostm_Net_Settled.sound (n : Option Addr) (w : World) (R : Bool → World → Prop) (h : hostm_Net_Settled.B0 n w R) : hostm_Net_Settled.Call n w R := by
  have hc := calls_of_block (args := #[.pointer n]) Tryz.func17 (body := (Tryz.f17.body.getD .skip)) (by kernel_rfl) (by kernel_rfl) (args_slot _) (hostm_Net_Settled.B0_sound n w h)
  exact hc.mono fun e w' he => by
    obtain ⟨v, rfl, hv⟩ := he
    exact hostm_Net_Settled.RV_elim hv
end Go.Proofs.Qxb6500424aGreat
