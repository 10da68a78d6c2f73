import Derived.Test.Qxb6500427aSig
set_option maxRecDepth 100000
set_option linter.unusedVariables false
open Go.Vc
namespace Go.Proofs.Qxb6500427a
def sock_Table_rowFine.B3 (t : Option Addr) (r : Nat) (k : Int) (t91 : Bool) (w : World) (N1 : Option Addr → Nat → Int → World → Prop)  (R : Bool → World → Prop) : Prop :=
  Bm t91 (
    R false w) (
    N1 t r (IntKind.i64.wrap (k + (1 : Int))) w)
theorem sock_Table_rowFine.B3_eq (t : Option Addr) (r : Nat) (k : Int) (t91 : Bool) (w : World) (N1 : Option Addr → Nat → Int → World → Prop)  (R : Bool → World → Prop)  :
    (
  Bm t91 (
    R false w) (
    N1 t r (IntKind.i64.wrap (k + (1 : Int))) w)) = kstep Try.prog 102 Try.f41.results.toList (Try.f41.body.getD .skip) (sock_Table_rowFine.RV R) (kvc Try.prog 102 Try.f41.results.toList (Try.f41.body.getD .skip) (sock_Table_rowFine.RV R) [([(0, [1, 1, 1, 1, 0, 1, 0, 0]), (2, [1, 1, 1, 1, 0, 1, 0, 0]), (1, [0]), (0, [1, 1, 1, 1, 1])], fun σ w => dP (slotOf σ 0) fun t_ => dK (slotOf σ 5) fun r_ => dI .i64 (slotOf σ 6) fun k_ => N1 t_ r_ k_ w)] 2000) [(0, [1, 1, 1, 1, 0, 1, 0, 0, 1, 0, 0, 1, 1, 1]), (1, [1]), (0, [1, 1, 1, 1, 0, 1, 0, 0, 1, 1]), (2, [1, 1, 1, 1, 0, 1, 0, 0]), (1, [0]), (0, [1, 1, 1, 1, 1])] [(0, .pointer t), (5, .pointer (some ⟨r, 0, none⟩)), (6, .int .i64 k), (91, .bool t91)] w := by kernel_rfl
theorem sock_Table_rowFine.B3_sound {R : Bool → World → Prop} {N1 : Option Addr → Nat → Int → World → Prop} (hN1 : ∀ t r k w, N1 t r k w → KW Try.prog 41 102 (sock_Table_rowFine.RV R) ([(0, [1, 1, 1, 1, 0, 1, 0, 0]), (2, [1, 1, 1, 1, 0, 1, 0, 0]), (1, [0]), (0, [1, 1, 1, 1, 1])].map (toItem (Try.f41.body.getD .skip))) [(0, .pointer t), (5, .pointer (some ⟨r, 0, none⟩)), (6, .int .i64 k)] w) (t : Option Addr) (r : Nat) (k : Int) (t91 : Bool) (w : World) (h : sock_Table_rowFine.B3 t r k t91 w N1  R) :
    KW Try.prog 41 102 (sock_Table_rowFine.RV R) ([(0, [1, 1, 1, 1, 0, 1, 0, 0, 1, 0, 0, 1, 1, 1]), (1, [1]), (0, [1, 1, 1, 1, 0, 1, 0, 0, 1, 1]), (2, [1, 1, 1, 1, 0, 1, 0, 0]), (1, [0]), (0, [1, 1, 1, 1, 1])].map (toItem (Try.f41.body.getD .skip))) [(0, .pointer t), (5, .pointer (some ⟨r, 0, none⟩)), (6, .int .i64 k), (91, .bool t91)] w := by
  exact block_spec Try.func41 Try.mixed (stops_cons (fun σ w h => by
      obtain ⟨t_, e0, h⟩ := dP_elim h
      obtain ⟨r_, e1, h⟩ := dK_elim h
      obtain ⟨k_, e2, h⟩ := dI_elim h
      exact (hN1 t_ r_ k_ w h).weaken (Sub.cons (Sub.cons (Sub.cons (Sub.nil _) e2) e1) e0)) stops_nil) (Eq.mp (sock_Table_rowFine.B3_eq t r k t91 w N1  R ) h)
def sock_Table_rowFine.B2 (t : Option Addr) (r : Nat) (k : Int) (o : Nat) (t53 : Bool) (w : World) (N1 : Option Addr → Nat → Int → World → Prop)  (R : Bool → World → Prop) : Prop :=
  Bm t53 (
    R false w) (
    LdB ⟨o, 0, none⟩ w fun x55 =>
    Bm x55 (
      LdI .i64 ⟨o, 2, none⟩ w fun x59 =>
      LdI .i64 ⟨r, 2, none⟩ w fun x62 =>
      Bm (x59 == x62) (
        LdI .i64 ⟨o, 3, none⟩ w fun x68 =>
        LdI .i64 ⟨r, 3, none⟩ w fun x71 =>
        Bm (x68 == x71) (
          LdI .i64 ⟨o, 4, none⟩ w fun x77 =>
          LdI .i64 ⟨r, 4, none⟩ w fun x80 =>
          Bm (x77 == x80) (
            LdI .i64 ⟨o, 5, none⟩ w fun x86 =>
            LdI .i64 ⟨r, 5, none⟩ w fun x89 =>
            sock_Table_rowFine.B3 t r k (x86 == x89) w N1 R) (
            sock_Table_rowFine.B3 t r k false w N1 R)) (
          sock_Table_rowFine.B3 t r k false w N1 R)) (
        sock_Table_rowFine.B3 t r k false w N1 R)) (
      sock_Table_rowFine.B3 t r k false w N1 R))
theorem sock_Table_rowFine.B2_eq (t : Option Addr) (r : Nat) (k : Int) (o : Nat) (t53 : Bool) (w : World) (N1 : Option Addr → Nat → Int → World → Prop)  (R : Bool → World → Prop) (sB3 : Option Addr → Nat → Int → Bool → World → Prop) :
    (
  Bm t53 (
    R false w) (
    LdB ⟨o, 0, none⟩ w fun x55 =>
    Bm x55 (
      LdI .i64 ⟨o, 2, none⟩ w fun x59 =>
      LdI .i64 ⟨r, 2, none⟩ w fun x62 =>
      Bm (x59 == x62) (
        LdI .i64 ⟨o, 3, none⟩ w fun x68 =>
        LdI .i64 ⟨r, 3, none⟩ w fun x71 =>
        Bm (x68 == x71) (
          LdI .i64 ⟨o, 4, none⟩ w fun x77 =>
          LdI .i64 ⟨r, 4, none⟩ w fun x80 =>
          Bm (x77 == x80) (
            LdI .i64 ⟨o, 5, none⟩ w fun x86 =>
            LdI .i64 ⟨r, 5, none⟩ w fun x89 =>
            sB3 t r k (x86 == x89) w) (
            sB3 t r k false w)) (
          sB3 t r k false w)) (
        sB3 t r k false w)) (
      sB3 t r k false w))) = kstep Try.prog 102 Try.f41.results.toList (Try.f41.body.getD .skip) (sock_Table_rowFine.RV R) (kvc Try.prog 102 Try.f41.results.toList (Try.f41.body.getD .skip) (sock_Table_rowFine.RV R) [([(0, [1, 1, 1, 1, 0, 1, 0, 0, 1, 0, 0, 1, 1, 1]), (1, [1]), (0, [1, 1, 1, 1, 0, 1, 0, 0, 1, 1]), (2, [1, 1, 1, 1, 0, 1, 0, 0]), (1, [0]), (0, [1, 1, 1, 1, 1])], fun σ w => dP (slotOf σ 0) fun t_ => dK (slotOf σ 5) fun r_ => dI .i64 (slotOf σ 6) fun k_ => dB (slotOf σ 91) fun t91_ => sB3 t_ r_ k_ t91_ w)] 2000) [(0, [1, 1, 1, 1, 0, 1, 0, 0, 1, 0, 0, 1, 0, 1]), (0, [1, 1, 1, 1, 0, 1, 0, 0, 1, 0, 0, 1, 1]), (1, [1]), (0, [1, 1, 1, 1, 0, 1, 0, 0, 1, 1]), (2, [1, 1, 1, 1, 0, 1, 0, 0]), (1, [0]), (0, [1, 1, 1, 1, 1])] [(0, .pointer t), (5, .pointer (some ⟨r, 0, none⟩)), (6, .int .i64 k), (7, .pointer (some ⟨o, 0, none⟩)), (53, .bool t53)] w := by kernel_rfl
theorem sock_Table_rowFine.B2_sound {R : Bool → World → Prop} {N1 : Option Addr → Nat → Int → World → Prop} (hN1 : ∀ t r k w, N1 t r k w → KW Try.prog 41 102 (sock_Table_rowFine.RV R) ([(0, [1, 1, 1, 1, 0, 1, 0, 0]), (2, [1, 1, 1, 1, 0, 1, 0, 0]), (1, [0]), (0, [1, 1, 1, 1, 1])].map (toItem (Try.f41.body.getD .skip))) [(0, .pointer t), (5, .pointer (some ⟨r, 0, none⟩)), (6, .int .i64 k)] w) (t : Option Addr) (r : Nat) (k : Int) (o : Nat) (t53 : Bool) (w : World) (h : sock_Table_rowFine.B2 t r k o t53 w N1  R) :
    KW Try.prog 41 102 (sock_Table_rowFine.RV R) ([(0, [1, 1, 1, 1, 0, 1, 0, 0, 1, 0, 0, 1, 0, 1]), (0, [1, 1, 1, 1, 0, 1, 0, 0, 1, 0, 0, 1, 1]), (1, [1]), (0, [1, 1, 1, 1, 0, 1, 0, 0, 1, 1]), (2, [1, 1, 1, 1, 0, 1, 0, 0]), (1, [0]), (0, [1, 1, 1, 1, 1])].map (toItem (Try.f41.body.getD .skip))) [(0, .pointer t), (5, .pointer (some ⟨r, 0, none⟩)), (6, .int .i64 k), (7, .pointer (some ⟨o, 0, none⟩)), (53, .bool t53)] w := by
  exact block_spec Try.func41 Try.mixed (stops_cons (fun σ w h => by
      obtain ⟨t_, e0, h⟩ := dP_elim h
      obtain ⟨r_, e1, h⟩ := dK_elim h
      obtain ⟨k_, e2, h⟩ := dI_elim h
      obtain ⟨t91_, e3, h⟩ := dB_elim h
      exact (sock_Table_rowFine.B3_sound hN1 t_ r_ k_ t91_ w h).weaken (Sub.cons (Sub.cons (Sub.cons (Sub.cons (Sub.nil _) e3) e2) e1) e0)) stops_nil) (Eq.mp (sock_Table_rowFine.B2_eq t r k o t53 w N1  R (fun t_ r_ k_ t91_ w => sock_Table_rowFine.B3 t_ r_ k_ t91_ w N1 R)) h)
def sock_Table_rowFine.L1b (t : Option Addr) (r : Nat) (k : Int) (w : World)  (N1 : Option Addr → Nat → Int → World → Prop) (R : Bool → World → Prop) : Prop :=
  Bm (decide (k < (6 : Int))) (
    Pn t fun a =>
    (0 ≤ k ∧ k < ((6 : Nat) : Int)) ∧
    LdB (Addr.add a (k.toNat * 15)) w fun x42_0 =>
    LdI .i64 ((Addr.add a (k.toNat * 15)).add 1) w fun x42_1 =>
    LdI .i64 ((Addr.add a (k.toNat * 15)).add 2) w fun x42_2 =>
    LdI .i64 ((Addr.add a (k.toNat * 15)).add 3) w fun x42_3 =>
    LdI .i64 ((Addr.add a (k.toNat * 15)).add 4) w fun x42_4 =>
    LdI .i64 ((Addr.add a (k.toNat * 15)).add 5) w fun x42_5 =>
    LdI .i64 ((Addr.add a (k.toNat * 15)).add 6) w fun x42_6 =>
    LdI .i64 ((Addr.add a (k.toNat * 15)).add 7) w fun x42_7 =>
    LdB ((Addr.add a (k.toNat * 15)).add 8) w fun x42_8 =>
    LdI .i64 ((Addr.add a (k.toNat * 15)).add 9) w fun x42_9 =>
    LdI .i64 ((Addr.add a (k.toNat * 15)).add 10) w fun x42_10 =>
    LdI .i64 ((Addr.add a (k.toNat * 15)).add 11) w fun x42_11 =>
    LdI .i64 ((Addr.add a (k.toNat * 15)).add 12) w fun x42_12 =>
    LdI .i64 ((Addr.add a (k.toNat * 15)).add 13) w fun x42_13 =>
    LdI .i64 ((Addr.add a (k.toNat * 15)).add 14) w fun x42_14 =>
    New (.cells #[.bool false, .int .i64 (0 : Int), .int .i64 (0 : Int), .int .i64 (0 : Int), .int .i64 (0 : Int), .int .i64 (0 : Int), .int .i64 (0 : Int), .int .i64 (0 : Int), .bool false, .int .i64 (0 : Int), .int .i64 (0 : Int), .int .i64 (0 : Int), .int .i64 (0 : Int), .int .i64 (0 : Int), .int .i64 (0 : Int)] 43) w fun o_ w1 =>
    Sts [.bool x42_0, .int .i64 x42_1, .int .i64 x42_2, .int .i64 x42_3, .int .i64 x42_4, .int .i64 x42_5, .int .i64 x42_6, .int .i64 x42_7, .bool x42_8, .int .i64 x42_9, .int .i64 x42_10, .int .i64 x42_11, .int .i64 x42_12, .int .i64 x42_13, .int .i64 x42_14] ⟨o_, 0, none⟩ 0 w1 fun w2 =>
    LdB ⟨o_, 0, none⟩ w2 fun x44 =>
    Bm x44 (
      LdI .i64 ⟨o_, 1, none⟩ w2 fun x48 =>
      LdI .i64 ⟨r, 1, none⟩ w2 fun x51 =>
      sock_Table_rowFine.B2 t r k o_ (x48 == x51) w2 N1 R) (
      sock_Table_rowFine.B2 t r k o_ false w2 N1 R)) (
    LdI .i64 ⟨r, 2, none⟩ w fun x94 =>
    Bm (x94 == (1 : Int)) (
      LdB ⟨r, 0, none⟩ w fun x97_0 =>
      LdI .i64 ⟨r, 1, none⟩ w fun x97_1 =>
      LdI .i64 ⟨r, 2, none⟩ w fun x97_2 =>
      LdI .i64 ⟨r, 3, none⟩ w fun x97_3 =>
      LdI .i64 ⟨r, 4, none⟩ w fun x97_4 =>
      LdI .i64 ⟨r, 5, none⟩ w fun x97_5 =>
      LdI .i64 ⟨r, 6, none⟩ w fun x97_6 =>
      LdI .i64 ⟨r, 7, none⟩ w fun x97_7 =>
      LdB ⟨r, 8, none⟩ w fun x97_8 =>
      LdI .i64 ⟨r, 9, none⟩ w fun x97_9 =>
      LdI .i64 ⟨r, 10, none⟩ w fun x97_10 =>
      LdI .i64 ⟨r, 11, none⟩ w fun x97_11 =>
      LdI .i64 ⟨r, 12, none⟩ w fun x97_12 =>
      LdI .i64 ⟨r, 13, none⟩ w fun x97_13 =>
      LdI .i64 ⟨r, 14, none⟩ w fun x97_14 =>
      sock_Table_listenerFine.Call t x97_0 x97_1 x97_2 x97_3 x97_4 x97_5 x97_6 x97_7 x97_8 x97_9 x97_10 x97_11 x97_12 x97_13 x97_14 w fun r98 w3 =>
      R r98 w3) (
      LdB ⟨r, 0, none⟩ w fun x100_0 =>
      LdI .i64 ⟨r, 1, none⟩ w fun x100_1 =>
      LdI .i64 ⟨r, 2, none⟩ w fun x100_2 =>
      LdI .i64 ⟨r, 3, none⟩ w fun x100_3 =>
      LdI .i64 ⟨r, 4, none⟩ w fun x100_4 =>
      LdI .i64 ⟨r, 5, none⟩ w fun x100_5 =>
      LdI .i64 ⟨r, 6, none⟩ w fun x100_6 =>
      LdI .i64 ⟨r, 7, none⟩ w fun x100_7 =>
      LdB ⟨r, 8, none⟩ w fun x100_8 =>
      LdI .i64 ⟨r, 9, none⟩ w fun x100_9 =>
      LdI .i64 ⟨r, 10, none⟩ w fun x100_10 =>
      LdI .i64 ⟨r, 11, none⟩ w fun x100_11 =>
      LdI .i64 ⟨r, 12, none⟩ w fun x100_12 =>
      LdI .i64 ⟨r, 13, none⟩ w fun x100_13 =>
      LdI .i64 ⟨r, 14, none⟩ w fun x100_14 =>
      sock_Table_connFine.Call t x100_0 x100_1 x100_2 x100_3 x100_4 x100_5 x100_6 x100_7 x100_8 x100_9 x100_10 x100_11 x100_12 x100_13 x100_14 w fun r101 w4 =>
      R r101 w4))
theorem sock_Table_rowFine.L1b_eq (t : Option Addr) (r : Nat) (k : Int) (w : World)  (N1 : Option Addr → Nat → Int → World → Prop) (R : Bool → World → Prop) (sB2 : Option Addr → Nat → Int → Nat → Bool → World → Prop) :
    (
  Bm (decide (k < (6 : Int))) (
    Pn t fun a =>
    (0 ≤ k ∧ k < ((6 : Nat) : Int)) ∧
    LdB (Addr.add a (k.toNat * 15)) w fun x42_0 =>
    LdI .i64 ((Addr.add a (k.toNat * 15)).add 1) w fun x42_1 =>
    LdI .i64 ((Addr.add a (k.toNat * 15)).add 2) w fun x42_2 =>
    LdI .i64 ((Addr.add a (k.toNat * 15)).add 3) w fun x42_3 =>
    LdI .i64 ((Addr.add a (k.toNat * 15)).add 4) w fun x42_4 =>
    LdI .i64 ((Addr.add a (k.toNat * 15)).add 5) w fun x42_5 =>
    LdI .i64 ((Addr.add a (k.toNat * 15)).add 6) w fun x42_6 =>
    LdI .i64 ((Addr.add a (k.toNat * 15)).add 7) w fun x42_7 =>
    LdB ((Addr.add a (k.toNat * 15)).add 8) w fun x42_8 =>
    LdI .i64 ((Addr.add a (k.toNat * 15)).add 9) w fun x42_9 =>
    LdI .i64 ((Addr.add a (k.toNat * 15)).add 10) w fun x42_10 =>
    LdI .i64 ((Addr.add a (k.toNat * 15)).add 11) w fun x42_11 =>
    LdI .i64 ((Addr.add a (k.toNat * 15)).add 12) w fun x42_12 =>
    LdI .i64 ((Addr.add a (k.toNat * 15)).add 13) w fun x42_13 =>
    LdI .i64 ((Addr.add a (k.toNat * 15)).add 14) w fun x42_14 =>
    New (.cells #[.bool false, .int .i64 (0 : Int), .int .i64 (0 : Int), .int .i64 (0 : Int), .int .i64 (0 : Int), .int .i64 (0 : Int), .int .i64 (0 : Int), .int .i64 (0 : Int), .bool false, .int .i64 (0 : Int), .int .i64 (0 : Int), .int .i64 (0 : Int), .int .i64 (0 : Int), .int .i64 (0 : Int), .int .i64 (0 : Int)] 43) w fun o_ w1 =>
    Sts [.bool x42_0, .int .i64 x42_1, .int .i64 x42_2, .int .i64 x42_3, .int .i64 x42_4, .int .i64 x42_5, .int .i64 x42_6, .int .i64 x42_7, .bool x42_8, .int .i64 x42_9, .int .i64 x42_10, .int .i64 x42_11, .int .i64 x42_12, .int .i64 x42_13, .int .i64 x42_14] ⟨o_, 0, none⟩ 0 w1 fun w2 =>
    LdB ⟨o_, 0, none⟩ w2 fun x44 =>
    Bm x44 (
      LdI .i64 ⟨o_, 1, none⟩ w2 fun x48 =>
      LdI .i64 ⟨r, 1, none⟩ w2 fun x51 =>
      sB2 t r k o_ (x48 == x51) w2) (
      sB2 t r k o_ false w2)) (
    LdI .i64 ⟨r, 2, none⟩ w fun x94 =>
    Bm (x94 == (1 : Int)) (
      LdB ⟨r, 0, none⟩ w fun x97_0 =>
      LdI .i64 ⟨r, 1, none⟩ w fun x97_1 =>
      LdI .i64 ⟨r, 2, none⟩ w fun x97_2 =>
      LdI .i64 ⟨r, 3, none⟩ w fun x97_3 =>
      LdI .i64 ⟨r, 4, none⟩ w fun x97_4 =>
      LdI .i64 ⟨r, 5, none⟩ w fun x97_5 =>
      LdI .i64 ⟨r, 6, none⟩ w fun x97_6 =>
      LdI .i64 ⟨r, 7, none⟩ w fun x97_7 =>
      LdB ⟨r, 8, none⟩ w fun x97_8 =>
      LdI .i64 ⟨r, 9, none⟩ w fun x97_9 =>
      LdI .i64 ⟨r, 10, none⟩ w fun x97_10 =>
      LdI .i64 ⟨r, 11, none⟩ w fun x97_11 =>
      LdI .i64 ⟨r, 12, none⟩ w fun x97_12 =>
      LdI .i64 ⟨r, 13, none⟩ w fun x97_13 =>
      LdI .i64 ⟨r, 14, none⟩ w fun x97_14 =>
      sock_Table_listenerFine.Call t x97_0 x97_1 x97_2 x97_3 x97_4 x97_5 x97_6 x97_7 x97_8 x97_9 x97_10 x97_11 x97_12 x97_13 x97_14 w fun r98 w3 =>
      R r98 w3) (
      LdB ⟨r, 0, none⟩ w fun x100_0 =>
      LdI .i64 ⟨r, 1, none⟩ w fun x100_1 =>
      LdI .i64 ⟨r, 2, none⟩ w fun x100_2 =>
      LdI .i64 ⟨r, 3, none⟩ w fun x100_3 =>
      LdI .i64 ⟨r, 4, none⟩ w fun x100_4 =>
      LdI .i64 ⟨r, 5, none⟩ w fun x100_5 =>
      LdI .i64 ⟨r, 6, none⟩ w fun x100_6 =>
      LdI .i64 ⟨r, 7, none⟩ w fun x100_7 =>
      LdB ⟨r, 8, none⟩ w fun x100_8 =>
      LdI .i64 ⟨r, 9, none⟩ w fun x100_9 =>
      LdI .i64 ⟨r, 10, none⟩ w fun x100_10 =>
      LdI .i64 ⟨r, 11, none⟩ w fun x100_11 =>
      LdI .i64 ⟨r, 12, none⟩ w fun x100_12 =>
      LdI .i64 ⟨r, 13, none⟩ w fun x100_13 =>
      LdI .i64 ⟨r, 14, none⟩ w fun x100_14 =>
      sock_Table_connFine.Call t x100_0 x100_1 x100_2 x100_3 x100_4 x100_5 x100_6 x100_7 x100_8 x100_9 x100_10 x100_11 x100_12 x100_13 x100_14 w fun r101 w4 =>
      R r101 w4))) = kstep Try.prog 102 Try.f41.results.toList (Try.f41.body.getD .skip) (sock_Table_rowFine.RV R) (kvc Try.prog 102 Try.f41.results.toList (Try.f41.body.getD .skip) (sock_Table_rowFine.RV R) [([(0, [1, 1, 1, 1, 0, 1, 0, 0, 1, 0, 0, 1, 0, 1]), (0, [1, 1, 1, 1, 0, 1, 0, 0, 1, 0, 0, 1, 1]), (1, [1]), (0, [1, 1, 1, 1, 0, 1, 0, 0, 1, 1]), (2, [1, 1, 1, 1, 0, 1, 0, 0]), (1, [0]), (0, [1, 1, 1, 1, 1])], fun σ w => dP (slotOf σ 0) fun t_ => dK (slotOf σ 5) fun r_ => dI .i64 (slotOf σ 6) fun k_ => dK (slotOf σ 7) fun o_ => dB (slotOf σ 53) fun t53_ => sB2 t_ r_ k_ o_ t53_ w)] 2000) [(0, [1, 1, 1, 1, 0, 1, 0, 0]), (2, [1, 1, 1, 1, 0, 1, 0, 0]), (1, [0]), (0, [1, 1, 1, 1, 1])] [(0, .pointer t), (5, .pointer (some ⟨r, 0, none⟩)), (6, .int .i64 k)] w := by kernel_rfl
theorem sock_Table_rowFine.L1b_sound {R : Bool → World → Prop} {N1 : Option Addr → Nat → Int → World → Prop} (hN1 : ∀ t r k w, N1 t r k w → KW Try.prog 41 102 (sock_Table_rowFine.RV R) ([(0, [1, 1, 1, 1, 0, 1, 0, 0]), (2, [1, 1, 1, 1, 0, 1, 0, 0]), (1, [0]), (0, [1, 1, 1, 1, 1])].map (toItem (Try.f41.body.getD .skip))) [(0, .pointer t), (5, .pointer (some ⟨r, 0, none⟩)), (6, .int .i64 k)] w) (t : Option Addr) (r : Nat) (k : Int) (w : World) (h : sock_Table_rowFine.L1b t r k w  N1 R) :
    KW Try.prog 41 102 (sock_Table_rowFine.RV R) ([(0, [1, 1, 1, 1, 0, 1, 0, 0]), (2, [1, 1, 1, 1, 0, 1, 0, 0]), (1, [0]), (0, [1, 1, 1, 1, 1])].map (toItem (Try.f41.body.getD .skip))) [(0, .pointer t), (5, .pointer (some ⟨r, 0, none⟩)), (6, .int .i64 k)] w := by
  exact block_spec Try.func41 Try.mixed (stops_cons (fun σ w h => by
      obtain ⟨t_, e0, h⟩ := dP_elim h
      obtain ⟨r_, e1, h⟩ := dK_elim h
      obtain ⟨k_, e2, h⟩ := dI_elim h
      obtain ⟨o_, e3, h⟩ := dK_elim h
      obtain ⟨t53_, e4, h⟩ := dB_elim h
      exact (sock_Table_rowFine.B2_sound hN1 t_ r_ k_ o_ t53_ w h).weaken (Sub.cons (Sub.cons (Sub.cons (Sub.cons (Sub.cons (Sub.nil _) e4) e3) e2) e1) e0)) stops_nil) (Eq.mp (sock_Table_rowFine.L1b_eq t r k w  N1 R (fun t_ r_ k_ o_ t53_ w => sock_Table_rowFine.B2 t_ r_ k_ o_ t53_ w N1 R)) h)
def sock_Table_rowFine.L1 (t : Option Addr) (r : Nat) (k : Int) (w : World)  (R : Bool → World → Prop) : Prop :=
  ∃ (I : Nat → Option Addr → Nat → Int → World → Prop) (m : Nat), I m t r k w ∧ ∀ m t r k w, I m t r k w → sock_Table_rowFine.L1b t r k w  (fun t' r' k' w' => ∃ m', m' < m ∧ I m' t' r' k' w') R
theorem sock_Table_rowFine.L1_sound {R : Bool → World → Prop}  (t : Option Addr) (r : Nat) (k : Int) (w : World) (h : sock_Table_rowFine.L1 t r k w  R) :
    KW Try.prog 41 102 (sock_Table_rowFine.RV R) ([(0, [1, 1, 1, 1, 0, 1, 0, 0]), (2, [1, 1, 1, 1, 0, 1, 0, 0]), (1, [0]), (0, [1, 1, 1, 1, 1])].map (toItem (Try.f41.body.getD .skip))) [(0, .pointer t), (5, .pointer (some ⟨r, 0, none⟩)), (6, .int .i64 k)] w := by
  obtain ⟨I, m, hBase, hr⟩ := h
  refine KW.loop (fun m σ w => ∃ (t : Option Addr) (r : Nat) (k : Int), σ = [(0, .pointer t), (5, .pointer (some ⟨r, 0, none⟩)), (6, .int .i64 k)] ∧ I m t r k w) ?_ m _ w ⟨t, r, k, rfl, hBase⟩
  rintro m ih σ w ⟨t, r, k, rfl, hI⟩
  exact sock_Table_rowFine.L1b_sound  (N1 := fun t' r' k' w' => ∃ m', m' < m ∧ I m' t' r' k' w') (fun t' r' k' w' hx => by obtain ⟨m', hlt, hI'⟩ := hx; exact ih m' hlt _ w' ⟨t', r', k', rfl, hI'⟩) t r k w (hr m t r k w hI)
def sock_Table_rowFine.B1 (t : Option Addr) (i : Int) (r : Nat) (t30 : Bool) (w : World)   (R : Bool → World → Prop) : Prop :=
  Bm t30 (
    R false w) (
    sock_Table_rowFine.L1 t r (IntKind.i64.wrap (i + (1 : Int))) w  R)
theorem sock_Table_rowFine.B1_eq (t : Option Addr) (i : Int) (r : Nat) (t30 : Bool) (w : World)   (R : Bool → World → Prop) (sL1 : Option Addr → Nat → Int → World → Prop) :
    (
  Bm t30 (
    R false w) (
    sL1 t r (IntKind.i64.wrap (i + (1 : Int))) w)) = kstep Try.prog 102 Try.f41.results.toList (Try.f41.body.getD .skip) (sock_Table_rowFine.RV R) (kvc Try.prog 102 Try.f41.results.toList (Try.f41.body.getD .skip) (sock_Table_rowFine.RV R) [([(0, [1, 1, 1, 1, 0, 1, 0, 0]), (2, [1, 1, 1, 1, 0, 1, 0, 0]), (1, [0]), (0, [1, 1, 1, 1, 1])], fun σ w => dP (slotOf σ 0) fun t_ => dK (slotOf σ 5) fun r_ => dI .i64 (slotOf σ 6) fun k_ => sL1 t_ r_ k_ w)] 2000) [(0, [1, 1, 1, 0, 1]), (0, [1, 1, 1, 1])] [(0, .pointer t), (1, .int .i64 i), (5, .pointer (some ⟨r, 0, none⟩)), (30, .bool t30)] w := by kernel_rfl
theorem sock_Table_rowFine.B1_sound {R : Bool → World → Prop}  (t : Option Addr) (i : Int) (r : Nat) (t30 : Bool) (w : World) (h : sock_Table_rowFine.B1 t i r t30 w   R) :
    KW Try.prog 41 102 (sock_Table_rowFine.RV R) ([(0, [1, 1, 1, 0, 1]), (0, [1, 1, 1, 1])].map (toItem (Try.f41.body.getD .skip))) [(0, .pointer t), (1, .int .i64 i), (5, .pointer (some ⟨r, 0, none⟩)), (30, .bool t30)] w := by
  exact block_spec Try.func41 Try.mixed (stops_cons (fun σ w h => by
      obtain ⟨t_, e0, h⟩ := dP_elim h
      obtain ⟨r_, e1, h⟩ := dK_elim h
      obtain ⟨k_, e2, h⟩ := dI_elim h
      exact (sock_Table_rowFine.L1_sound  t_ r_ k_ w h).weaken (Sub.cons (Sub.cons (Sub.cons (Sub.nil _) e2) e1) e0)) stops_nil) (Eq.mp (sock_Table_rowFine.B1_eq t i r t30 w   R (fun t_ r_ k_ w => sock_Table_rowFine.L1 t_ r_ k_ w  R)) h)
def sock_Table_rowFine.B0 (t : Option Addr) (i : Int) (w : World)   (R : Bool → World → Prop) : Prop :=
  Pn t fun a =>
  (0 ≤ i ∧ i < ((6 : Nat) : Int)) ∧
  LdB (Addr.add a (i.toNat * 15)) w fun x13_0 =>
  LdI .i64 ((Addr.add a (i.toNat * 15)).add 1) w fun x13_1 =>
  LdI .i64 ((Addr.add a (i.toNat * 15)).add 2) w fun x13_2 =>
  LdI .i64 ((Addr.add a (i.toNat * 15)).add 3) w fun x13_3 =>
  LdI .i64 ((Addr.add a (i.toNat * 15)).add 4) w fun x13_4 =>
  LdI .i64 ((Addr.add a (i.toNat * 15)).add 5) w fun x13_5 =>
  LdI .i64 ((Addr.add a (i.toNat * 15)).add 6) w fun x13_6 =>
  LdI .i64 ((Addr.add a (i.toNat * 15)).add 7) w fun x13_7 =>
  LdB ((Addr.add a (i.toNat * 15)).add 8) w fun x13_8 =>
  LdI .i64 ((Addr.add a (i.toNat * 15)).add 9) w fun x13_9 =>
  LdI .i64 ((Addr.add a (i.toNat * 15)).add 10) w fun x13_10 =>
  LdI .i64 ((Addr.add a (i.toNat * 15)).add 11) w fun x13_11 =>
  LdI .i64 ((Addr.add a (i.toNat * 15)).add 12) w fun x13_12 =>
  LdI .i64 ((Addr.add a (i.toNat * 15)).add 13) w fun x13_13 =>
  LdI .i64 ((Addr.add a (i.toNat * 15)).add 14) w fun x13_14 =>
  New (.cells #[.bool false, .int .i64 (0 : Int), .int .i64 (0 : Int), .int .i64 (0 : Int), .int .i64 (0 : Int), .int .i64 (0 : Int), .int .i64 (0 : Int), .int .i64 (0 : Int), .bool false, .int .i64 (0 : Int), .int .i64 (0 : Int), .int .i64 (0 : Int), .int .i64 (0 : Int), .int .i64 (0 : Int), .int .i64 (0 : Int)] 43) w fun r_ w1 =>
  Sts [.bool x13_0, .int .i64 x13_1, .int .i64 x13_2, .int .i64 x13_3, .int .i64 x13_4, .int .i64 x13_5, .int .i64 x13_6, .int .i64 x13_7, .bool x13_8, .int .i64 x13_9, .int .i64 x13_10, .int .i64 x13_11, .int .i64 x13_12, .int .i64 x13_13, .int .i64 x13_14] ⟨r_, 0, none⟩ 0 w1 fun w2 =>
  LdB ⟨r_, 0, none⟩ w2 fun x15 =>
  Bm (!x15) (
    R true w2) (
    LdI .i64 ⟨r_, 1, none⟩ w2.drew fun x19 =>
    Bm (decide (x19 < (1 : Int))) (
      sock_Table_rowFine.B1 t i r_ true w2.drew  R) (
      LdI .i64 ⟨r_, 1, none⟩ w2.drew fun x24 =>
      Pn t fun a_1 =>
      LdI .i64 (a_1.add 105) w2.drew fun x28 =>
      sock_Table_rowFine.B1 t i r_ (decide (x24 ≥ x28)) w2.drew  R))
theorem sock_Table_rowFine.B0_eq (t : Option Addr) (i : Int) (w : World)   (R : Bool → World → Prop) (sB1 : Option Addr → Int → Nat → Bool → World → Prop) :
    (
  Pn t fun a =>
  (0 ≤ i ∧ i < ((6 : Nat) : Int)) ∧
  LdB (Addr.add a (i.toNat * 15)) w fun x13_0 =>
  LdI .i64 ((Addr.add a (i.toNat * 15)).add 1) w fun x13_1 =>
  LdI .i64 ((Addr.add a (i.toNat * 15)).add 2) w fun x13_2 =>
  LdI .i64 ((Addr.add a (i.toNat * 15)).add 3) w fun x13_3 =>
  LdI .i64 ((Addr.add a (i.toNat * 15)).add 4) w fun x13_4 =>
  LdI .i64 ((Addr.add a (i.toNat * 15)).add 5) w fun x13_5 =>
  LdI .i64 ((Addr.add a (i.toNat * 15)).add 6) w fun x13_6 =>
  LdI .i64 ((Addr.add a (i.toNat * 15)).add 7) w fun x13_7 =>
  LdB ((Addr.add a (i.toNat * 15)).add 8) w fun x13_8 =>
  LdI .i64 ((Addr.add a (i.toNat * 15)).add 9) w fun x13_9 =>
  LdI .i64 ((Addr.add a (i.toNat * 15)).add 10) w fun x13_10 =>
  LdI .i64 ((Addr.add a (i.toNat * 15)).add 11) w fun x13_11 =>
  LdI .i64 ((Addr.add a (i.toNat * 15)).add 12) w fun x13_12 =>
  LdI .i64 ((Addr.add a (i.toNat * 15)).add 13) w fun x13_13 =>
  LdI .i64 ((Addr.add a (i.toNat * 15)).add 14) w fun x13_14 =>
  New (.cells #[.bool false, .int .i64 (0 : Int), .int .i64 (0 : Int), .int .i64 (0 : Int), .int .i64 (0 : Int), .int .i64 (0 : Int), .int .i64 (0 : Int), .int .i64 (0 : Int), .bool false, .int .i64 (0 : Int), .int .i64 (0 : Int), .int .i64 (0 : Int), .int .i64 (0 : Int), .int .i64 (0 : Int), .int .i64 (0 : Int)] 43) w fun r_ w1 =>
  Sts [.bool x13_0, .int .i64 x13_1, .int .i64 x13_2, .int .i64 x13_3, .int .i64 x13_4, .int .i64 x13_5, .int .i64 x13_6, .int .i64 x13_7, .bool x13_8, .int .i64 x13_9, .int .i64 x13_10, .int .i64 x13_11, .int .i64 x13_12, .int .i64 x13_13, .int .i64 x13_14] ⟨r_, 0, none⟩ 0 w1 fun w2 =>
  LdB ⟨r_, 0, none⟩ w2 fun x15 =>
  Bm (!x15) (
    R true w2) (
    LdI .i64 ⟨r_, 1, none⟩ w2.drew fun x19 =>
    Bm (decide (x19 < (1 : Int))) (
      sB1 t i r_ true w2.drew) (
      LdI .i64 ⟨r_, 1, none⟩ w2.drew fun x24 =>
      Pn t fun a_1 =>
      LdI .i64 (a_1.add 105) w2.drew fun x28 =>
      sB1 t i r_ (decide (x24 ≥ x28)) w2.drew))) = kstep Try.prog 102 Try.f41.results.toList (Try.f41.body.getD .skip) (sock_Table_rowFine.RV R) (kvc Try.prog 102 Try.f41.results.toList (Try.f41.body.getD .skip) (sock_Table_rowFine.RV R) [([(0, [1, 1, 1, 0, 1]), (0, [1, 1, 1, 1])], fun σ w => dP (slotOf σ 0) fun t_ => dI .i64 (slotOf σ 1) fun i_ => dK (slotOf σ 5) fun r_ => dB (slotOf σ 30) fun t30_ => sB1 t_ i_ r_ t30_ w)] 2000) [(0, [])] [(0, .pointer t), (1, .int .i64 i)] w := by kernel_rfl
theorem sock_Table_rowFine.B0_sound {R : Bool → World → Prop}  (t : Option Addr) (i : Int) (w : World) (h : sock_Table_rowFine.B0 t i w   R) :
    KW Try.prog 41 102 (sock_Table_rowFine.RV R) ([(0, [])].map (toItem (Try.f41.body.getD .skip))) [(0, .pointer t), (1, .int .i64 i)] w := by
  exact block_spec Try.func41 Try.mixed (stops_cons (fun σ w h => by
      obtain ⟨t_, e0, h⟩ := dP_elim h
      obtain ⟨i_, e1, h⟩ := dI_elim h
      obtain ⟨r_, e2, h⟩ := dK_elim h
      obtain ⟨t30_, e3, h⟩ := dB_elim h
      exact (sock_Table_rowFine.B1_sound  t_ i_ r_ t30_ w h).weaken (Sub.cons (Sub.cons (Sub.cons (Sub.cons (Sub.nil _) e3) e2) e1) e0)) stops_nil) (Eq.mp (sock_Table_rowFine.B0_eq t i w   R (fun t_ i_ r_ t30_ w => sock_Table_rowFine.B1 t_ i_ r_ t30_ w  R)) h)
theorem sock_Table_rowFine.sound (t : Option Addr) (i : Int) (w : World) (R : Bool → World → Prop) (h : sock_Table_rowFine.B0 t i w R) : sock_Table_rowFine.Call t i w R := by
  have hc := calls_of_block (args := #[.pointer t, .int .i64 i]) Try.func41 (body := (Try.f41.body.getD .skip)) (by kernel_rfl) (by kernel_rfl) (args_slot _) (sock_Table_rowFine.B0_sound t i w h)
  exact hc.mono fun e w' he => by
    obtain ⟨v, rfl, hv⟩ := he
    exact sock_Table_rowFine.RV_elim hv
def sock_Table_Listen.B1 (t : Option Addr) (port : Int) (t13 : Bool) (w : World)   (R : Int → Int → World → Prop) : Prop :=
  Bm t13 (
    R (0 : Int) (22 : Int) w) (
    Pn t fun a =>
    (0 ≤ port ∧ port < ((8 : Nat) : Int)) ∧
    LdI .i64 (Addr.add (a.add 95) (port.toNat * 1)) w fun x19 =>
    Bm (x19 != (-1 : Int)) (
      R (0 : Int) (23 : Int) w) (
      Pn t fun a_1 =>
      LdI .i64 (a_1.add 104) w fun x24 =>
      Bm (decide (x24 ≥ (2 : Int))) (
        R (0 : Int) (11 : Int) w) (
        sock_Table_take.Call t w fun r27 w1 =>
        Bm (r27 == (-1 : Int)) (
          R (0 : Int) (11 : Int) w1) (
          Pn t fun a_2 =>
          LdI .i64 (a_2.add 105) w1 fun x33 =>
          Pn t fun a_3 =>
          LdI .i64 (a_3.add 105) w1 fun x37 =>
          Pn t fun a_4 =>
          Sts [.int .i64 (IntKind.i64.wrap (x37 + (1 : Int)))] (a_4.add 105) 0 w1 fun w2 =>
          Pn t fun a_5 =>
          (0 ≤ r27 ∧ r27 < ((6 : Nat) : Int)) ∧
          Sts [.int .i64 x33, .int .i64 (1 : Int), .int .i64 port, .int .i64 (0 : Int), .int .i64 (0 : Int), .int .i64 (-1 : Int), .int .i64 (0 : Int), .bool false] ((Addr.add a_5 (r27.toNat * 15)).add 1) 0 w2 fun w3 =>
          Pn t fun a_6 =>
          (0 ≤ port ∧ port < ((8 : Nat) : Int)) ∧
          Sts [.int .i64 r27] (Addr.add (a_6.add 95) (port.toNat * 1)) 0 w3 fun w4 =>
          Pn t fun a_7 =>
          LdI .i64 (a_7.add 104) w4 fun x59 =>
          Pn t fun a_8 =>
          Sts [.int .i64 (IntKind.i64.wrap (x59 + (1 : Int)))] (a_8.add 104) 0 w4 fun w5 =>
          R x33 (0 : Int) w5))))
theorem sock_Table_Listen.B1_eq (t : Option Addr) (port : Int) (t13 : Bool) (w : World)   (R : Int → Int → World → Prop)  :
    (
  Bm t13 (
    R (0 : Int) (22 : Int) w) (
    Pn t fun a =>
    (0 ≤ port ∧ port < ((8 : Nat) : Int)) ∧
    LdI .i64 (Addr.add (a.add 95) (port.toNat * 1)) w fun x19 =>
    Bm (x19 != (-1 : Int)) (
      R (0 : Int) (23 : Int) w) (
      Pn t fun a_1 =>
      LdI .i64 (a_1.add 104) w fun x24 =>
      Bm (decide (x24 ≥ (2 : Int))) (
        R (0 : Int) (11 : Int) w) (
        sock_Table_take.Call t w fun r27 w1 =>
        Bm (r27 == (-1 : Int)) (
          R (0 : Int) (11 : Int) w1) (
          Pn t fun a_2 =>
          LdI .i64 (a_2.add 105) w1 fun x33 =>
          Pn t fun a_3 =>
          LdI .i64 (a_3.add 105) w1 fun x37 =>
          Pn t fun a_4 =>
          Sts [.int .i64 (IntKind.i64.wrap (x37 + (1 : Int)))] (a_4.add 105) 0 w1 fun w2 =>
          Pn t fun a_5 =>
          (0 ≤ r27 ∧ r27 < ((6 : Nat) : Int)) ∧
          Sts [.int .i64 x33, .int .i64 (1 : Int), .int .i64 port, .int .i64 (0 : Int), .int .i64 (0 : Int), .int .i64 (-1 : Int), .int .i64 (0 : Int), .bool false] ((Addr.add a_5 (r27.toNat * 15)).add 1) 0 w2 fun w3 =>
          Pn t fun a_6 =>
          (0 ≤ port ∧ port < ((8 : Nat) : Int)) ∧
          Sts [.int .i64 r27] (Addr.add (a_6.add 95) (port.toNat * 1)) 0 w3 fun w4 =>
          Pn t fun a_7 =>
          LdI .i64 (a_7.add 104) w4 fun x59 =>
          Pn t fun a_8 =>
          Sts [.int .i64 (IntKind.i64.wrap (x59 + (1 : Int)))] (a_8.add 104) 0 w4 fun w5 =>
          R x33 (0 : Int) w5))))) = kstep Try.prog 64 Try.f42.results.toList (Try.f42.body.getD .skip) (sock_Table_Listen.RV R) (kvc Try.prog 64 Try.f42.results.toList (Try.f42.body.getD .skip) (sock_Table_Listen.RV R) [] 2000) [(0, [1, 0, 1]), (0, [1, 1])] [(0, .pointer t), (1, .int .i64 port), (13, .bool t13)] w := by kernel_rfl
theorem sock_Table_Listen.B1_sound {R : Int → Int → World → Prop}  (t : Option Addr) (port : Int) (t13 : Bool) (w : World) (h : sock_Table_Listen.B1 t port t13 w   R) :
    KW Try.prog 42 64 (sock_Table_Listen.RV R) ([(0, [1, 0, 1]), (0, [1, 1])].map (toItem (Try.f42.body.getD .skip))) [(0, .pointer t), (1, .int .i64 port), (13, .bool t13)] w := by
  exact block_spec Try.func42 Try.mixed stops_nil (Eq.mp (sock_Table_Listen.B1_eq t port t13 w   R ) h)
def sock_Table_Listen.B0 (t : Option Addr) (port : Int) (w : World)   (R : Int → Int → World → Prop) : Prop :=
  Bm (decide (port < (1 : Int))) (
    sock_Table_Listen.B1 t port true w  R) (
    sock_Table_Listen.B1 t port (decide (port ≥ (8 : Int))) w  R)
theorem sock_Table_Listen.B0_eq (t : Option Addr) (port : Int) (w : World)   (R : Int → Int → World → Prop) (sB1 : Option Addr → Int → Bool → World → Prop) :
    (
  Bm (decide (port < (1 : Int))) (
    sB1 t port true w) (
    sB1 t port (decide (port ≥ (8 : Int))) w)) = kstep Try.prog 64 Try.f42.results.toList (Try.f42.body.getD .skip) (sock_Table_Listen.RV R) (kvc Try.prog 64 Try.f42.results.toList (Try.f42.body.getD .skip) (sock_Table_Listen.RV R) [([(0, [1, 0, 1]), (0, [1, 1])], fun σ w => dP (slotOf σ 0) fun t_ => dI .i64 (slotOf σ 1) fun port_ => dB (slotOf σ 13) fun t13_ => sB1 t_ port_ t13_ w)] 2000) [(0, [])] [(0, .pointer t), (1, .int .i64 port)] w := by kernel_rfl
theorem sock_Table_Listen.B0_sound {R : Int → Int → World → Prop}  (t : Option Addr) (port : Int) (w : World) (h : sock_Table_Listen.B0 t port w   R) :
    KW Try.prog 42 64 (sock_Table_Listen.RV R) ([(0, [])].map (toItem (Try.f42.body.getD .skip))) [(0, .pointer t), (1, .int .i64 port)] w := by
  exact block_spec Try.func42 Try.mixed (stops_cons (fun σ w h => by
      obtain ⟨t_, e0, h⟩ := dP_elim h
      obtain ⟨port_, e1, h⟩ := dI_elim h
      obtain ⟨t13_, e2, h⟩ := dB_elim h
      exact (sock_Table_Listen.B1_sound  t_ port_ t13_ w h).weaken (Sub.cons (Sub.cons (Sub.cons (Sub.nil _) e2) e1) e0)) stops_nil) (Eq.mp (sock_Table_Listen.B0_eq t port w   R (fun t_ port_ t13_ w => sock_Table_Listen.B1 t_ port_ t13_ w  R)) h)
theorem sock_Table_Listen.sound (t : Option Addr) (port : Int) (w : World) (R : Int → Int → World → Prop) (h : sock_Table_Listen.B0 t port w R) : sock_Table_Listen.Call t port w R := by
  have hc := calls_of_block (args := #[.pointer t, .int .i64 port]) Try.func42 (body := (Try.f42.body.getD .skip)) (by kernel_rfl) (by kernel_rfl) (args_slot _) (sock_Table_Listen.B0_sound t port w h)
  exact hc.mono fun e w' he => by
    obtain ⟨v, rfl, hv⟩ := he
    exact sock_Table_Listen.RV_elim hv
def sockm_Table_Listen.B1 (t : Option Addr) (port : Int) (t11 : Bool) (w : World)   (R : Int → Int → World → Prop) : Prop :=
  Bm t11 (
    R (0 : Int) (22 : Int) w) (
    sockm_Table_Listener.Call t port w fun r14 w1 =>
    Bm (r14 != (0 : Int)) (
      R (0 : Int) (23 : Int) w1) (
      sockm_Table_count.Call t (1 : Int) w1 fun r17 w2 =>
      Bm (r17 == (2 : Int)) (
        R (0 : Int) (11 : Int) w2) (
        sockm_Table_add.Call t (0 : Int) (1 : Int) port (0 : Int) (0 : Int) (-1 : Int) (0 : Int) false w2 fun r22 w3 =>
        R r22 (0 : Int) w3)))
theorem sockm_Table_Listen.B1_eq (t : Option Addr) (port : Int) (t11 : Bool) (w : World)   (R : Int → Int → World → Prop)  :
    (
  Bm t11 (
    R (0 : Int) (22 : Int) w) (
    sockm_Table_Listener.Call t port w fun r14 w1 =>
    Bm (r14 != (0 : Int)) (
      R (0 : Int) (23 : Int) w1) (
      sockm_Table_count.Call t (1 : Int) w1 fun r17 w2 =>
      Bm (r17 == (2 : Int)) (
        R (0 : Int) (11 : Int) w2) (
        sockm_Table_add.Call t (0 : Int) (1 : Int) port (0 : Int) (0 : Int) (-1 : Int) (0 : Int) false w2 fun r22 w3 =>
        R r22 (0 : Int) w3)))) = kstep Try.prog 23 Try.f43.results.toList (Try.f43.body.getD .skip) (sockm_Table_Listen.RV R) (kvc Try.prog 23 Try.f43.results.toList (Try.f43.body.getD .skip) (sockm_Table_Listen.RV R) [] 2000) [(0, [1, 0, 1]), (0, [1, 1])] [(0, .pointer t), (1, .int .i64 port), (11, .bool t11)] w := by kernel_rfl
theorem sockm_Table_Listen.B1_sound {R : Int → Int → World → Prop}  (t : Option Addr) (port : Int) (t11 : Bool) (w : World) (h : sockm_Table_Listen.B1 t port t11 w   R) :
    KW Try.prog 43 23 (sockm_Table_Listen.RV R) ([(0, [1, 0, 1]), (0, [1, 1])].map (toItem (Try.f43.body.getD .skip))) [(0, .pointer t), (1, .int .i64 port), (11, .bool t11)] w := by
  exact block_spec Try.func43 Try.mixed stops_nil (Eq.mp (sockm_Table_Listen.B1_eq t port t11 w   R ) h)
def sockm_Table_Listen.B0 (t : Option Addr) (port : Int) (w : World)   (R : Int → Int → World → Prop) : Prop :=
  Bm (decide (port < (1 : Int))) (
    sockm_Table_Listen.B1 t port true w  R) (
    sockm_Table_Listen.B1 t port (decide (port ≥ (8 : Int))) w  R)
theorem sockm_Table_Listen.B0_eq (t : Option Addr) (port : Int) (w : World)   (R : Int → Int → World → Prop) (sB1 : Option Addr → Int → Bool → World → Prop) :
    (
  Bm (decide (port < (1 : Int))) (
    sB1 t port true w) (
    sB1 t port (decide (port ≥ (8 : Int))) w)) = kstep Try.prog 23 Try.f43.results.toList (Try.f43.body.getD .skip) (sockm_Table_Listen.RV R) (kvc Try.prog 23 Try.f43.results.toList (Try.f43.body.getD .skip) (sockm_Table_Listen.RV R) [([(0, [1, 0, 1]), (0, [1, 1])], fun σ w => dP (slotOf σ 0) fun t_ => dI .i64 (slotOf σ 1) fun port_ => dB (slotOf σ 11) fun t11_ => sB1 t_ port_ t11_ w)] 2000) [(0, [])] [(0, .pointer t), (1, .int .i64 port)] w := by kernel_rfl
theorem sockm_Table_Listen.B0_sound {R : Int → Int → World → Prop}  (t : Option Addr) (port : Int) (w : World) (h : sockm_Table_Listen.B0 t port w   R) :
    KW Try.prog 43 23 (sockm_Table_Listen.RV R) ([(0, [])].map (toItem (Try.f43.body.getD .skip))) [(0, .pointer t), (1, .int .i64 port)] w := by
  exact block_spec Try.func43 Try.mixed (stops_cons (fun σ w h => by
      obtain ⟨t_, e0, h⟩ := dP_elim h
      obtain ⟨port_, e1, h⟩ := dI_elim h
      obtain ⟨t11_, e2, h⟩ := dB_elim h
      exact (sockm_Table_Listen.B1_sound  t_ port_ t11_ w h).weaken (Sub.cons (Sub.cons (Sub.cons (Sub.nil _) e2) e1) e0)) stops_nil) (Eq.mp (sockm_Table_Listen.B0_eq t port w   R (fun t_ port_ t11_ w => sockm_Table_Listen.B1 t_ port_ t11_ w  R)) h)
theorem sockm_Table_Listen.sound (t : Option Addr) (port : Int) (w : World) (R : Int → Int → World → Prop) (h : sockm_Table_Listen.B0 t port w R) : sockm_Table_Listen.Call t port w R := by
  have hc := calls_of_block (args := #[.pointer t, .int .i64 port]) Try.func43 (body := (Try.f43.body.getD .skip)) (by kernel_rfl) (by kernel_rfl) (args_slot _) (sockm_Table_Listen.B0_sound t port w h)
  exact hc.mono fun e w' he => by
    obtain ⟨v, rfl, hv⟩ := he
    exact sockm_Table_Listen.RV_elim hv
def sock_Table_Connect.B3 (t : Option Addr) (rhost rport s p n : Int) (t43 : Bool) (w : World) (N1 : Option Addr → Int → Int → Int → Int → Int → Int → World → Prop)  (R : Int → Int → World → Prop) : Prop :=
  Bm t43 (
    sock_nextEph.Call p w fun r47 w1 =>
    sock_Table_Lookup.Call t r47 rhost rport w1 fun r52 w2 =>
    N1 t rhost rport s r47 r52 (IntKind.i64.wrap (n + (1 : Int))) w2) (
    sock_Table_conn.Call t p rhost rport s (0 : Int) w fun r58 w3 =>
    Bm (r58 == (0 : Int)) (
      R (0 : Int) (11 : Int) w3) (
      sock_nextEph.Call p w3 fun r63 w4 =>
      Pn t fun a =>
      Sts [.int .i64 r63] (a.add 106) 0 w4 fun w5 =>
      R r58 (0 : Int) w5))
theorem sock_Table_Connect.B3_eq (t : Option Addr) (rhost rport s p n : Int) (t43 : Bool) (w : World) (N1 : Option Addr → Int → Int → Int → Int → Int → Int → World → Prop)  (R : Int → Int → World → Prop)  :
    (
  Bm t43 (
    sock_nextEph.Call p w fun r47 w1 =>
    sock_Table_Lookup.Call t r47 rhost rport w1 fun r52 w2 =>
    N1 t rhost rport s r47 r52 (IntKind.i64.wrap (n + (1 : Int))) w2) (
    sock_Table_conn.Call t p rhost rport s (0 : Int) w fun r58 w3 =>
    Bm (r58 == (0 : Int)) (
      R (0 : Int) (11 : Int) w3) (
      sock_nextEph.Call p w3 fun r63 w4 =>
      Pn t fun a =>
      Sts [.int .i64 r63] (a.add 106) 0 w4 fun w5 =>
      R r58 (0 : Int) w5))) = kstep Try.prog 67 Try.f44.results.toList (Try.f44.body.getD .skip) (sock_Table_Connect.RV R) (kvc Try.prog 67 Try.f44.results.toList (Try.f44.body.getD .skip) (sock_Table_Connect.RV R) [([(0, [1, 1, 1, 1, 1, 1, 1, 0, 1, 0, 0]), (2, [1, 1, 1, 1, 1, 1, 1, 0, 1, 0, 0]), (1, [0]), (0, [1, 1, 1, 1, 1, 1, 1, 1])], fun σ w => dP (slotOf σ 0) fun t_ => dI .i64 (slotOf σ 1) fun rhost_ => dI .i64 (slotOf σ 2) fun rport_ => dI .i64 (slotOf σ 8) fun s_ => dI .i64 (slotOf σ 9) fun p_ => dI .i64 (slotOf σ 10) fun held_ => dI .i64 (slotOf σ 11) fun n_ => N1 t_ rhost_ rport_ s_ p_ held_ n_ w)] 2000) [(0, [1, 1, 1, 1, 1, 1, 1, 0, 1, 0, 0, 0, 1]), (0, [1, 1, 1, 1, 1, 1, 1, 0, 1, 0, 0, 1]), (2, [1, 1, 1, 1, 1, 1, 1, 0, 1, 0, 0]), (1, [0]), (0, [1, 1, 1, 1, 1, 1, 1, 1])] [(0, .pointer t), (1, .int .i64 rhost), (2, .int .i64 rport), (8, .int .i64 s), (9, .int .i64 p), (11, .int .i64 n), (43, .bool t43)] w := by kernel_rfl
theorem sock_Table_Connect.B3_sound {R : Int → Int → World → Prop} {N1 : Option Addr → Int → Int → Int → Int → Int → Int → World → Prop} (hN1 : ∀ t rhost rport s p held n w, N1 t rhost rport s p held n w → KW Try.prog 44 67 (sock_Table_Connect.RV R) ([(0, [1, 1, 1, 1, 1, 1, 1, 0, 1, 0, 0]), (2, [1, 1, 1, 1, 1, 1, 1, 0, 1, 0, 0]), (1, [0]), (0, [1, 1, 1, 1, 1, 1, 1, 1])].map (toItem (Try.f44.body.getD .skip))) [(0, .pointer t), (1, .int .i64 rhost), (2, .int .i64 rport), (8, .int .i64 s), (9, .int .i64 p), (10, .int .i64 held), (11, .int .i64 n)] w) (t : Option Addr) (rhost rport s p n : Int) (t43 : Bool) (w : World) (h : sock_Table_Connect.B3 t rhost rport s p n t43 w N1  R) :
    KW Try.prog 44 67 (sock_Table_Connect.RV R) ([(0, [1, 1, 1, 1, 1, 1, 1, 0, 1, 0, 0, 0, 1]), (0, [1, 1, 1, 1, 1, 1, 1, 0, 1, 0, 0, 1]), (2, [1, 1, 1, 1, 1, 1, 1, 0, 1, 0, 0]), (1, [0]), (0, [1, 1, 1, 1, 1, 1, 1, 1])].map (toItem (Try.f44.body.getD .skip))) [(0, .pointer t), (1, .int .i64 rhost), (2, .int .i64 rport), (8, .int .i64 s), (9, .int .i64 p), (11, .int .i64 n), (43, .bool t43)] w := by
  exact block_spec Try.func44 Try.mixed (stops_cons (fun σ w h => by
      obtain ⟨t_, e0, h⟩ := dP_elim h
      obtain ⟨rhost_, e1, h⟩ := dI_elim h
      obtain ⟨rport_, e2, h⟩ := dI_elim h
      obtain ⟨s_, e3, h⟩ := dI_elim h
      obtain ⟨p_, e4, h⟩ := dI_elim h
      obtain ⟨held_, e5, h⟩ := dI_elim h
      obtain ⟨n_, e6, h⟩ := dI_elim h
      exact (hN1 t_ rhost_ rport_ s_ p_ held_ n_ w h).weaken (Sub.cons (Sub.cons (Sub.cons (Sub.cons (Sub.cons (Sub.cons (Sub.cons (Sub.nil _) e6) e5) e4) e3) e2) e1) e0)) stops_nil) (Eq.mp (sock_Table_Connect.B3_eq t rhost rport s p n t43 w N1  R ) h)
def sock_Table_Connect.L1b (t : Option Addr) (rhost rport s p held n : Int) (w : World)  (N1 : Option Addr → Int → Int → Int → Int → Int → Int → World → Prop) (R : Int → Int → World → Prop) : Prop :=
  Bm (held != (0 : Int)) (
    sock_Table_Connect.B3 t rhost rport s p n (decide (n < (8 : Int))) w N1 R) (
    sock_Table_Connect.B3 t rhost rport s p n false w N1 R)
theorem sock_Table_Connect.L1b_eq (t : Option Addr) (rhost rport s p held n : Int) (w : World)  (N1 : Option Addr → Int → Int → Int → Int → Int → Int → World → Prop) (R : Int → Int → World → Prop) (sB3 : Option Addr → Int → Int → Int → Int → Int → Bool → World → Prop) :
    (
  Bm (held != (0 : Int)) (
    sB3 t rhost rport s p n (decide (n < (8 : Int))) w) (
    sB3 t rhost rport s p n false w)) = kstep Try.prog 67 Try.f44.results.toList (Try.f44.body.getD .skip) (sock_Table_Connect.RV R) (kvc Try.prog 67 Try.f44.results.toList (Try.f44.body.getD .skip) (sock_Table_Connect.RV R) [([(0, [1, 1, 1, 1, 1, 1, 1, 0, 1, 0, 0, 0, 1]), (0, [1, 1, 1, 1, 1, 1, 1, 0, 1, 0, 0, 1]), (2, [1, 1, 1, 1, 1, 1, 1, 0, 1, 0, 0]), (1, [0]), (0, [1, 1, 1, 1, 1, 1, 1, 1])], fun σ w => dP (slotOf σ 0) fun t_ => dI .i64 (slotOf σ 1) fun rhost_ => dI .i64 (slotOf σ 2) fun rport_ => dI .i64 (slotOf σ 8) fun s_ => dI .i64 (slotOf σ 9) fun p_ => dI .i64 (slotOf σ 11) fun n_ => dB (slotOf σ 43) fun t43_ => sB3 t_ rhost_ rport_ s_ p_ n_ t43_ w)] 2000) [(0, [1, 1, 1, 1, 1, 1, 1, 0, 1, 0, 0]), (2, [1, 1, 1, 1, 1, 1, 1, 0, 1, 0, 0]), (1, [0]), (0, [1, 1, 1, 1, 1, 1, 1, 1])] [(0, .pointer t), (1, .int .i64 rhost), (2, .int .i64 rport), (8, .int .i64 s), (9, .int .i64 p), (10, .int .i64 held), (11, .int .i64 n)] w := by kernel_rfl
theorem sock_Table_Connect.L1b_sound {R : Int → Int → World → Prop} {N1 : Option Addr → Int → Int → Int → Int → Int → Int → World → Prop} (hN1 : ∀ t rhost rport s p held n w, N1 t rhost rport s p held n w → KW Try.prog 44 67 (sock_Table_Connect.RV R) ([(0, [1, 1, 1, 1, 1, 1, 1, 0, 1, 0, 0]), (2, [1, 1, 1, 1, 1, 1, 1, 0, 1, 0, 0]), (1, [0]), (0, [1, 1, 1, 1, 1, 1, 1, 1])].map (toItem (Try.f44.body.getD .skip))) [(0, .pointer t), (1, .int .i64 rhost), (2, .int .i64 rport), (8, .int .i64 s), (9, .int .i64 p), (10, .int .i64 held), (11, .int .i64 n)] w) (t : Option Addr) (rhost rport s p held n : Int) (w : World) (h : sock_Table_Connect.L1b t rhost rport s p held n w  N1 R) :
    KW Try.prog 44 67 (sock_Table_Connect.RV R) ([(0, [1, 1, 1, 1, 1, 1, 1, 0, 1, 0, 0]), (2, [1, 1, 1, 1, 1, 1, 1, 0, 1, 0, 0]), (1, [0]), (0, [1, 1, 1, 1, 1, 1, 1, 1])].map (toItem (Try.f44.body.getD .skip))) [(0, .pointer t), (1, .int .i64 rhost), (2, .int .i64 rport), (8, .int .i64 s), (9, .int .i64 p), (10, .int .i64 held), (11, .int .i64 n)] w := by
  exact block_spec Try.func44 Try.mixed (stops_cons (fun σ w h => by
      obtain ⟨t_, e0, h⟩ := dP_elim h
      obtain ⟨rhost_, e1, h⟩ := dI_elim h
      obtain ⟨rport_, e2, h⟩ := dI_elim h
      obtain ⟨s_, e3, h⟩ := dI_elim h
      obtain ⟨p_, e4, h⟩ := dI_elim h
      obtain ⟨n_, e5, h⟩ := dI_elim h
      obtain ⟨t43_, e6, h⟩ := dB_elim h
      exact (sock_Table_Connect.B3_sound hN1 t_ rhost_ rport_ s_ p_ n_ t43_ w h).weaken (Sub.cons (Sub.cons (Sub.cons (Sub.cons (Sub.cons (Sub.cons (Sub.cons (Sub.nil _) e6) e5) e4) e3) e2) e1) e0)) stops_nil) (Eq.mp (sock_Table_Connect.L1b_eq t rhost rport s p held n w  N1 R (fun t_ rhost_ rport_ s_ p_ n_ t43_ w => sock_Table_Connect.B3 t_ rhost_ rport_ s_ p_ n_ t43_ w N1 R)) h)
def sock_Table_Connect.L1 (t : Option Addr) (rhost rport s p held n : Int) (w : World)  (R : Int → Int → World → Prop) : Prop :=
  ∃ (I : Nat → Option Addr → Int → Int → Int → Int → Int → Int → World → Prop) (m : Nat), I m t rhost rport s p held n w ∧ ∀ m t rhost rport s p held n w, I m t rhost rport s p held n w → sock_Table_Connect.L1b t rhost rport s p held n w  (fun t' rhost' rport' s' p' held' n' w' => ∃ m', m' < m ∧ I m' t' rhost' rport' s' p' held' n' w') R
theorem sock_Table_Connect.L1_sound {R : Int → Int → World → Prop}  (t : Option Addr) (rhost rport s p held n : Int) (w : World) (h : sock_Table_Connect.L1 t rhost rport s p held n w  R) :
    KW Try.prog 44 67 (sock_Table_Connect.RV R) ([(0, [1, 1, 1, 1, 1, 1, 1, 0, 1, 0, 0]), (2, [1, 1, 1, 1, 1, 1, 1, 0, 1, 0, 0]), (1, [0]), (0, [1, 1, 1, 1, 1, 1, 1, 1])].map (toItem (Try.f44.body.getD .skip))) [(0, .pointer t), (1, .int .i64 rhost), (2, .int .i64 rport), (8, .int .i64 s), (9, .int .i64 p), (10, .int .i64 held), (11, .int .i64 n)] w := by
  obtain ⟨I, m, hBase, hr⟩ := h
  refine KW.loop (fun m σ w => ∃ (t : Option Addr) (rhost rport s p held n : Int), σ = [(0, .pointer t), (1, .int .i64 rhost), (2, .int .i64 rport), (8, .int .i64 s), (9, .int .i64 p), (10, .int .i64 held), (11, .int .i64 n)] ∧ I m t rhost rport s p held n w) ?_ m _ w ⟨t, rhost, rport, s, p, held, n, rfl, hBase⟩
  rintro m ih σ w ⟨t, rhost, rport, s, p, held, n, rfl, hI⟩
  exact sock_Table_Connect.L1b_sound  (N1 := fun t' rhost' rport' s' p' held' n' w' => ∃ m', m' < m ∧ I m' t' rhost' rport' s' p' held' n' w') (fun t' rhost' rport' s' p' held' n' w' hx => by obtain ⟨m', hlt, hI'⟩ := hx; exact ih m' hlt _ w' ⟨t', rhost', rport', s', p', held', n', rfl, hI'⟩) t rhost rport s p held n w (hr m t rhost rport s p held n w hI)
def sock_Table_Connect.B2 (t : Option Addr) (rhost rport : Int) (t24 : Bool) (w : World)   (R : Int → Int → World → Prop) : Prop :=
  Bm t24 (
    R (0 : Int) (22 : Int) w) (
    sock_Table_lowBlock.Call t w fun r26 w1 =>
    Bm (r26 == (-1 : Int)) (
      R (0 : Int) (11 : Int) w1) (
      Pn t fun a =>
      LdI .i64 (a.add 106) w1 fun x32 =>
      sock_Table_Lookup.Call t x32 rhost rport w1 fun r37 w2 =>
      sock_Table_Connect.L1 t rhost rport r26 x32 r37 (0 : Int) w2  R))
theorem sock_Table_Connect.B2_eq (t : Option Addr) (rhost rport : Int) (t24 : Bool) (w : World)   (R : Int → Int → World → Prop) (sL1 : Option Addr → Int → Int → Int → Int → Int → Int → World → Prop) :
    (
  Bm t24 (
    R (0 : Int) (22 : Int) w) (
    sock_Table_lowBlock.Call t w fun r26 w1 =>
    Bm (r26 == (-1 : Int)) (
      R (0 : Int) (11 : Int) w1) (
      Pn t fun a =>
      LdI .i64 (a.add 106) w1 fun x32 =>
      sock_Table_Lookup.Call t x32 rhost rport w1 fun r37 w2 =>
      sL1 t rhost rport r26 x32 r37 (0 : Int) w2))) = kstep Try.prog 67 Try.f44.results.toList (Try.f44.body.getD .skip) (sock_Table_Connect.RV R) (kvc Try.prog 67 Try.f44.results.toList (Try.f44.body.getD .skip) (sock_Table_Connect.RV R) [([(0, [1, 1, 1, 1, 1, 1, 1, 0, 1, 0, 0]), (2, [1, 1, 1, 1, 1, 1, 1, 0, 1, 0, 0]), (1, [0]), (0, [1, 1, 1, 1, 1, 1, 1, 1])], fun σ w => dP (slotOf σ 0) fun t_ => dI .i64 (slotOf σ 1) fun rhost_ => dI .i64 (slotOf σ 2) fun rport_ => dI .i64 (slotOf σ 8) fun s_ => dI .i64 (slotOf σ 9) fun p_ => dI .i64 (slotOf σ 10) fun held_ => dI .i64 (slotOf σ 11) fun n_ => sL1 t_ rhost_ rport_ s_ p_ held_ n_ w)] 2000) [(0, [1, 1, 0, 1]), (0, [1, 1, 1])] [(0, .pointer t), (1, .int .i64 rhost), (2, .int .i64 rport), (24, .bool t24)] w := by kernel_rfl
theorem sock_Table_Connect.B2_sound {R : Int → Int → World → Prop}  (t : Option Addr) (rhost rport : Int) (t24 : Bool) (w : World) (h : sock_Table_Connect.B2 t rhost rport t24 w   R) :
    KW Try.prog 44 67 (sock_Table_Connect.RV R) ([(0, [1, 1, 0, 1]), (0, [1, 1, 1])].map (toItem (Try.f44.body.getD .skip))) [(0, .pointer t), (1, .int .i64 rhost), (2, .int .i64 rport), (24, .bool t24)] w := by
  exact block_spec Try.func44 Try.mixed (stops_cons (fun σ w h => by
      obtain ⟨t_, e0, h⟩ := dP_elim h
      obtain ⟨rhost_, e1, h⟩ := dI_elim h
      obtain ⟨rport_, e2, h⟩ := dI_elim h
      obtain ⟨s_, e3, h⟩ := dI_elim h
      obtain ⟨p_, e4, h⟩ := dI_elim h
      obtain ⟨held_, e5, h⟩ := dI_elim h
      obtain ⟨n_, e6, h⟩ := dI_elim h
      exact (sock_Table_Connect.L1_sound  t_ rhost_ rport_ s_ p_ held_ n_ w h).weaken (Sub.cons (Sub.cons (Sub.cons (Sub.cons (Sub.cons (Sub.cons (Sub.cons (Sub.nil _) e6) e5) e4) e3) e2) e1) e0)) stops_nil) (Eq.mp (sock_Table_Connect.B2_eq t rhost rport t24 w   R (fun t_ rhost_ rport_ s_ p_ held_ n_ w => sock_Table_Connect.L1 t_ rhost_ rport_ s_ p_ held_ n_ w  R)) h)
def sock_Table_Connect.B1 (t : Option Addr) (rhost rport : Int) (t18 : Bool) (w : World)   (R : Int → Int → World → Prop) : Prop :=
  Bm t18 (
    R (0 : Int) (5 : Int) w) (
    Bm (decide (rport < (1 : Int))) (
      sock_Table_Connect.B2 t rhost rport true w  R) (
      sock_Table_Connect.B2 t rhost rport (decide (rport > (15 : Int))) w  R))
theorem sock_Table_Connect.B1_eq (t : Option Addr) (rhost rport : Int) (t18 : Bool) (w : World)   (R : Int → Int → World → Prop) (sB2 : Option Addr → Int → Int → Bool → World → Prop) :
    (
  Bm t18 (
    R (0 : Int) (5 : Int) w) (
    Bm (decide (rport < (1 : Int))) (
      sB2 t rhost rport true w) (
      sB2 t rhost rport (decide (rport > (15 : Int))) w))) = kstep Try.prog 67 Try.f44.results.toList (Try.f44.body.getD .skip) (sock_Table_Connect.RV R) (kvc Try.prog 67 Try.f44.results.toList (Try.f44.body.getD .skip) (sock_Table_Connect.RV R) [([(0, [1, 1, 0, 1]), (0, [1, 1, 1])], fun σ w => dP (slotOf σ 0) fun t_ => dI .i64 (slotOf σ 1) fun rhost_ => dI .i64 (slotOf σ 2) fun rport_ => dB (slotOf σ 24) fun t24_ => sB2 t_ rhost_ rport_ t24_ w)] 2000) [(0, [1, 0, 1]), (0, [1, 1])] [(0, .pointer t), (1, .int .i64 rhost), (2, .int .i64 rport), (18, .bool t18)] w := by kernel_rfl
theorem sock_Table_Connect.B1_sound {R : Int → Int → World → Prop}  (t : Option Addr) (rhost rport : Int) (t18 : Bool) (w : World) (h : sock_Table_Connect.B1 t rhost rport t18 w   R) :
    KW Try.prog 44 67 (sock_Table_Connect.RV R) ([(0, [1, 0, 1]), (0, [1, 1])].map (toItem (Try.f44.body.getD .skip))) [(0, .pointer t), (1, .int .i64 rhost), (2, .int .i64 rport), (18, .bool t18)] w := by
  exact block_spec Try.func44 Try.mixed (stops_cons (fun σ w h => by
      obtain ⟨t_, e0, h⟩ := dP_elim h
      obtain ⟨rhost_, e1, h⟩ := dI_elim h
      obtain ⟨rport_, e2, h⟩ := dI_elim h
      obtain ⟨t24_, e3, h⟩ := dB_elim h
      exact (sock_Table_Connect.B2_sound  t_ rhost_ rport_ t24_ w h).weaken (Sub.cons (Sub.cons (Sub.cons (Sub.cons (Sub.nil _) e3) e2) e1) e0)) stops_nil) (Eq.mp (sock_Table_Connect.B1_eq t rhost rport t18 w   R (fun t_ rhost_ rport_ t24_ w => sock_Table_Connect.B2 t_ rhost_ rport_ t24_ w  R)) h)
def sock_Table_Connect.B0 (t : Option Addr) (rhost rport : Int) (w : World)   (R : Int → Int → World → Prop) : Prop :=
  Bm (decide (rhost < (1 : Int))) (
    sock_Table_Connect.B1 t rhost rport true w  R) (
    sock_Table_Connect.B1 t rhost rport (decide (rhost > (255 : Int))) w  R)
theorem sock_Table_Connect.B0_eq (t : Option Addr) (rhost rport : Int) (w : World)   (R : Int → Int → World → Prop) (sB1 : Option Addr → Int → Int → Bool → World → Prop) :
    (
  Bm (decide (rhost < (1 : Int))) (
    sB1 t rhost rport true w) (
    sB1 t rhost rport (decide (rhost > (255 : Int))) w)) = kstep Try.prog 67 Try.f44.results.toList (Try.f44.body.getD .skip) (sock_Table_Connect.RV R) (kvc Try.prog 67 Try.f44.results.toList (Try.f44.body.getD .skip) (sock_Table_Connect.RV R) [([(0, [1, 0, 1]), (0, [1, 1])], fun σ w => dP (slotOf σ 0) fun t_ => dI .i64 (slotOf σ 1) fun rhost_ => dI .i64 (slotOf σ 2) fun rport_ => dB (slotOf σ 18) fun t18_ => sB1 t_ rhost_ rport_ t18_ w)] 2000) [(0, [])] [(0, .pointer t), (1, .int .i64 rhost), (2, .int .i64 rport)] w := by kernel_rfl
theorem sock_Table_Connect.B0_sound {R : Int → Int → World → Prop}  (t : Option Addr) (rhost rport : Int) (w : World) (h : sock_Table_Connect.B0 t rhost rport w   R) :
    KW Try.prog 44 67 (sock_Table_Connect.RV R) ([(0, [])].map (toItem (Try.f44.body.getD .skip))) [(0, .pointer t), (1, .int .i64 rhost), (2, .int .i64 rport)] w := by
  exact block_spec Try.func44 Try.mixed (stops_cons (fun σ w h => by
      obtain ⟨t_, e0, h⟩ := dP_elim h
      obtain ⟨rhost_, e1, h⟩ := dI_elim h
      obtain ⟨rport_, e2, h⟩ := dI_elim h
      obtain ⟨t18_, e3, h⟩ := dB_elim h
      exact (sock_Table_Connect.B1_sound  t_ rhost_ rport_ t18_ w h).weaken (Sub.cons (Sub.cons (Sub.cons (Sub.cons (Sub.nil _) e3) e2) e1) e0)) stops_nil) (Eq.mp (sock_Table_Connect.B0_eq t rhost rport w   R (fun t_ rhost_ rport_ t18_ w => sock_Table_Connect.B1 t_ rhost_ rport_ t18_ w  R)) h)
theorem sock_Table_Connect.sound (t : Option Addr) (rhost rport : Int) (w : World) (R : Int → Int → World → Prop) (h : sock_Table_Connect.B0 t rhost rport w R) : sock_Table_Connect.Call t rhost rport w R := by
  have hc := calls_of_block (args := #[.pointer t, .int .i64 rhost, .int .i64 rport]) Try.func44 (body := (Try.f44.body.getD .skip)) (by kernel_rfl) (by kernel_rfl) (args_slot _) (sock_Table_Connect.B0_sound t rhost rport w h)
  exact hc.mono fun e w' he => by
    obtain ⟨v, rfl, hv⟩ := he
    exact sock_Table_Connect.RV_elim hv
def sockm_Table_Connect.L1b (t : Option Addr) (rhost rport s p : Int) (w : World)  (N1 : Option Addr → Int → Int → Int → Int → World → Prop) (R : Int → Int → World → Prop) : Prop :=
  sockm_Table_Lookup.Call t p rhost rport w fun r34 w1 =>
  Bm (r34 != (0 : Int)) (
    sockm_nextEph.Call p w1 fun r37 w2 =>
    N1 t rhost rport s r37 w2) (
    sockm_nextEph.Call p w1 fun r40 w3 =>
    Pn t fun a =>
    Sts [.int .i64 r40] (a.add 2) 0 w3 fun w4 =>
    sockm_Table_add.Call t (0 : Int) (2 : Int) p rhost rport s (0 : Int) false w4 fun r49 w5 =>
    R r49 (0 : Int) w5)
theorem sockm_Table_Connect.L1b_eq (t : Option Addr) (rhost rport s p : Int) (w : World)  (N1 : Option Addr → Int → Int → Int → Int → World → Prop) (R : Int → Int → World → Prop)  :
    (
  sockm_Table_Lookup.Call t p rhost rport w fun r34 w1 =>
  Bm (r34 != (0 : Int)) (
    sockm_nextEph.Call p w1 fun r37 w2 =>
    N1 t rhost rport s r37 w2) (
    sockm_nextEph.Call p w1 fun r40 w3 =>
    Pn t fun a =>
    Sts [.int .i64 r40] (a.add 2) 0 w3 fun w4 =>
    sockm_Table_add.Call t (0 : Int) (2 : Int) p rhost rport s (0 : Int) false w4 fun r49 w5 =>
    R r49 (0 : Int) w5)) = kstep Try.prog 50 Try.f45.results.toList (Try.f45.body.getD .skip) (sockm_Table_Connect.RV R) (kvc Try.prog 50 Try.f45.results.toList (Try.f45.body.getD .skip) (sockm_Table_Connect.RV R) [([(0, [1, 1, 1, 1, 1, 1, 0, 0, 0]), (2, [1, 1, 1, 1, 1, 1, 0, 0, 0]), (1, [0]), (0, [1, 1, 1, 1, 1, 1, 1])], fun σ w => dP (slotOf σ 0) fun t_ => dI .i64 (slotOf σ 1) fun rhost_ => dI .i64 (slotOf σ 2) fun rport_ => dI .i64 (slotOf σ 8) fun s_ => dI .i64 (slotOf σ 9) fun p_ => N1 t_ rhost_ rport_ s_ p_ w)] 2000) [(0, [1, 1, 1, 1, 1, 1, 0, 0, 0]), (2, [1, 1, 1, 1, 1, 1, 0, 0, 0]), (1, [0]), (0, [1, 1, 1, 1, 1, 1, 1])] [(0, .pointer t), (1, .int .i64 rhost), (2, .int .i64 rport), (8, .int .i64 s), (9, .int .i64 p)] w := by kernel_rfl
theorem sockm_Table_Connect.L1b_sound {R : Int → Int → World → Prop} {N1 : Option Addr → Int → Int → Int → Int → World → Prop} (hN1 : ∀ t rhost rport s p w, N1 t rhost rport s p w → KW Try.prog 45 50 (sockm_Table_Connect.RV R) ([(0, [1, 1, 1, 1, 1, 1, 0, 0, 0]), (2, [1, 1, 1, 1, 1, 1, 0, 0, 0]), (1, [0]), (0, [1, 1, 1, 1, 1, 1, 1])].map (toItem (Try.f45.body.getD .skip))) [(0, .pointer t), (1, .int .i64 rhost), (2, .int .i64 rport), (8, .int .i64 s), (9, .int .i64 p)] w) (t : Option Addr) (rhost rport s p : Int) (w : World) (h : sockm_Table_Connect.L1b t rhost rport s p w  N1 R) :
    KW Try.prog 45 50 (sockm_Table_Connect.RV R) ([(0, [1, 1, 1, 1, 1, 1, 0, 0, 0]), (2, [1, 1, 1, 1, 1, 1, 0, 0, 0]), (1, [0]), (0, [1, 1, 1, 1, 1, 1, 1])].map (toItem (Try.f45.body.getD .skip))) [(0, .pointer t), (1, .int .i64 rhost), (2, .int .i64 rport), (8, .int .i64 s), (9, .int .i64 p)] w := by
  exact block_spec Try.func45 Try.mixed (stops_cons (fun σ w h => by
      obtain ⟨t_, e0, h⟩ := dP_elim h
      obtain ⟨rhost_, e1, h⟩ := dI_elim h
      obtain ⟨rport_, e2, h⟩ := dI_elim h
      obtain ⟨s_, e3, h⟩ := dI_elim h
      obtain ⟨p_, e4, h⟩ := dI_elim h
      exact (hN1 t_ rhost_ rport_ s_ p_ w h).weaken (Sub.cons (Sub.cons (Sub.cons (Sub.cons (Sub.cons (Sub.nil _) e4) e3) e2) e1) e0)) stops_nil) (Eq.mp (sockm_Table_Connect.L1b_eq t rhost rport s p w  N1 R ) h)
def sockm_Table_Connect.L1 (t : Option Addr) (rhost rport s p : Int) (w : World)  (R : Int → Int → World → Prop) : Prop :=
  ∃ (I : Nat → Option Addr → Int → Int → Int → Int → World → Prop) (m : Nat), I m t rhost rport s p w ∧ ∀ m t rhost rport s p w, I m t rhost rport s p w → sockm_Table_Connect.L1b t rhost rport s p w  (fun t' rhost' rport' s' p' w' => ∃ m', m' < m ∧ I m' t' rhost' rport' s' p' w') R
theorem sockm_Table_Connect.L1_sound {R : Int → Int → World → Prop}  (t : Option Addr) (rhost rport s p : Int) (w : World) (h : sockm_Table_Connect.L1 t rhost rport s p w  R) :
    KW Try.prog 45 50 (sockm_Table_Connect.RV R) ([(0, [1, 1, 1, 1, 1, 1, 0, 0, 0]), (2, [1, 1, 1, 1, 1, 1, 0, 0, 0]), (1, [0]), (0, [1, 1, 1, 1, 1, 1, 1])].map (toItem (Try.f45.body.getD .skip))) [(0, .pointer t), (1, .int .i64 rhost), (2, .int .i64 rport), (8, .int .i64 s), (9, .int .i64 p)] w := by
  obtain ⟨I, m, hBase, hr⟩ := h
  refine KW.loop (fun m σ w => ∃ (t : Option Addr) (rhost rport s p : Int), σ = [(0, .pointer t), (1, .int .i64 rhost), (2, .int .i64 rport), (8, .int .i64 s), (9, .int .i64 p)] ∧ I m t rhost rport s p w) ?_ m _ w ⟨t, rhost, rport, s, p, rfl, hBase⟩
  rintro m ih σ w ⟨t, rhost, rport, s, p, rfl, hI⟩
  exact sockm_Table_Connect.L1b_sound  (N1 := fun t' rhost' rport' s' p' w' => ∃ m', m' < m ∧ I m' t' rhost' rport' s' p' w') (fun t' rhost' rport' s' p' w' hx => by obtain ⟨m', hlt, hI'⟩ := hx; exact ih m' hlt _ w' ⟨t', rhost', rport', s', p', rfl, hI'⟩) t rhost rport s p w (hr m t rhost rport s p w hI)
def sockm_Table_Connect.B2 (t : Option Addr) (rhost rport : Int) (t21 : Bool) (w : World)   (R : Int → Int → World → Prop) : Prop :=
  Bm t21 (
    R (0 : Int) (22 : Int) w) (
    sockm_Table_freeSlot.Call t w fun r23 w1 =>
    Bm (decide (r23 < (0 : Int))) (
      R (0 : Int) (11 : Int) w1) (
      Pn t fun a =>
      LdI .i64 (a.add 2) w1 fun x29 =>
      sockm_Table_Connect.L1 t rhost rport r23 x29 w1  R))
theorem sockm_Table_Connect.B2_eq (t : Option Addr) (rhost rport : Int) (t21 : Bool) (w : World)   (R : Int → Int → World → Prop) (sL1 : Option Addr → Int → Int → Int → Int → World → Prop) :
    (
  Bm t21 (
    R (0 : Int) (22 : Int) w) (
    sockm_Table_freeSlot.Call t w fun r23 w1 =>
    Bm (decide (r23 < (0 : Int))) (
      R (0 : Int) (11 : Int) w1) (
      Pn t fun a =>
      LdI .i64 (a.add 2) w1 fun x29 =>
      sL1 t rhost rport r23 x29 w1))) = kstep Try.prog 50 Try.f45.results.toList (Try.f45.body.getD .skip) (sockm_Table_Connect.RV R) (kvc Try.prog 50 Try.f45.results.toList (Try.f45.body.getD .skip) (sockm_Table_Connect.RV R) [([(0, [1, 1, 1, 1, 1, 1, 0, 0, 0]), (2, [1, 1, 1, 1, 1, 1, 0, 0, 0]), (1, [0]), (0, [1, 1, 1, 1, 1, 1, 1])], fun σ w => dP (slotOf σ 0) fun t_ => dI .i64 (slotOf σ 1) fun rhost_ => dI .i64 (slotOf σ 2) fun rport_ => dI .i64 (slotOf σ 8) fun s_ => dI .i64 (slotOf σ 9) fun p_ => sL1 t_ rhost_ rport_ s_ p_ w)] 2000) [(0, [1, 1, 0, 1]), (0, [1, 1, 1])] [(0, .pointer t), (1, .int .i64 rhost), (2, .int .i64 rport), (21, .bool t21)] w := by kernel_rfl
theorem sockm_Table_Connect.B2_sound {R : Int → Int → World → Prop}  (t : Option Addr) (rhost rport : Int) (t21 : Bool) (w : World) (h : sockm_Table_Connect.B2 t rhost rport t21 w   R) :
    KW Try.prog 45 50 (sockm_Table_Connect.RV R) ([(0, [1, 1, 0, 1]), (0, [1, 1, 1])].map (toItem (Try.f45.body.getD .skip))) [(0, .pointer t), (1, .int .i64 rhost), (2, .int .i64 rport), (21, .bool t21)] w := by
  exact block_spec Try.func45 Try.mixed (stops_cons (fun σ w h => by
      obtain ⟨t_, e0, h⟩ := dP_elim h
      obtain ⟨rhost_, e1, h⟩ := dI_elim h
      obtain ⟨rport_, e2, h⟩ := dI_elim h
      obtain ⟨s_, e3, h⟩ := dI_elim h
      obtain ⟨p_, e4, h⟩ := dI_elim h
      exact (sockm_Table_Connect.L1_sound  t_ rhost_ rport_ s_ p_ w h).weaken (Sub.cons (Sub.cons (Sub.cons (Sub.cons (Sub.cons (Sub.nil _) e4) e3) e2) e1) e0)) stops_nil) (Eq.mp (sockm_Table_Connect.B2_eq t rhost rport t21 w   R (fun t_ rhost_ rport_ s_ p_ w => sockm_Table_Connect.L1 t_ rhost_ rport_ s_ p_ w  R)) h)
def sockm_Table_Connect.B1 (t : Option Addr) (rhost rport : Int) (t15 : Bool) (w : World)   (R : Int → Int → World → Prop) : Prop :=
  Bm t15 (
    R (0 : Int) (5 : Int) w) (
    Bm (decide (rport < (1 : Int))) (
      sockm_Table_Connect.B2 t rhost rport true w  R) (
      sockm_Table_Connect.B2 t rhost rport (decide (rport > (15 : Int))) w  R))
theorem sockm_Table_Connect.B1_eq (t : Option Addr) (rhost rport : Int) (t15 : Bool) (w : World)   (R : Int → Int → World → Prop) (sB2 : Option Addr → Int → Int → Bool → World → Prop) :
    (
  Bm t15 (
    R (0 : Int) (5 : Int) w) (
    Bm (decide (rport < (1 : Int))) (
      sB2 t rhost rport true w) (
      sB2 t rhost rport (decide (rport > (15 : Int))) w))) = kstep Try.prog 50 Try.f45.results.toList (Try.f45.body.getD .skip) (sockm_Table_Connect.RV R) (kvc Try.prog 50 Try.f45.results.toList (Try.f45.body.getD .skip) (sockm_Table_Connect.RV R) [([(0, [1, 1, 0, 1]), (0, [1, 1, 1])], fun σ w => dP (slotOf σ 0) fun t_ => dI .i64 (slotOf σ 1) fun rhost_ => dI .i64 (slotOf σ 2) fun rport_ => dB (slotOf σ 21) fun t21_ => sB2 t_ rhost_ rport_ t21_ w)] 2000) [(0, [1, 0, 1]), (0, [1, 1])] [(0, .pointer t), (1, .int .i64 rhost), (2, .int .i64 rport), (15, .bool t15)] w := by kernel_rfl
theorem sockm_Table_Connect.B1_sound {R : Int → Int → World → Prop}  (t : Option Addr) (rhost rport : Int) (t15 : Bool) (w : World) (h : sockm_Table_Connect.B1 t rhost rport t15 w   R) :
    KW Try.prog 45 50 (sockm_Table_Connect.RV R) ([(0, [1, 0, 1]), (0, [1, 1])].map (toItem (Try.f45.body.getD .skip))) [(0, .pointer t), (1, .int .i64 rhost), (2, .int .i64 rport), (15, .bool t15)] w := by
  exact block_spec Try.func45 Try.mixed (stops_cons (fun σ w h => by
      obtain ⟨t_, e0, h⟩ := dP_elim h
      obtain ⟨rhost_, e1, h⟩ := dI_elim h
      obtain ⟨rport_, e2, h⟩ := dI_elim h
      obtain ⟨t21_, e3, h⟩ := dB_elim h
      exact (sockm_Table_Connect.B2_sound  t_ rhost_ rport_ t21_ w h).weaken (Sub.cons (Sub.cons (Sub.cons (Sub.cons (Sub.nil _) e3) e2) e1) e0)) stops_nil) (Eq.mp (sockm_Table_Connect.B1_eq t rhost rport t15 w   R (fun t_ rhost_ rport_ t21_ w => sockm_Table_Connect.B2 t_ rhost_ rport_ t21_ w  R)) h)
def sockm_Table_Connect.B0 (t : Option Addr) (rhost rport : Int) (w : World)   (R : Int → Int → World → Prop) : Prop :=
  Bm (decide (rhost < (1 : Int))) (
    sockm_Table_Connect.B1 t rhost rport true w  R) (
    sockm_Table_Connect.B1 t rhost rport (decide (rhost > (255 : Int))) w  R)
theorem sockm_Table_Connect.B0_eq (t : Option Addr) (rhost rport : Int) (w : World)   (R : Int → Int → World → Prop) (sB1 : Option Addr → Int → Int → Bool → World → Prop) :
    (
  Bm (decide (rhost < (1 : Int))) (
    sB1 t rhost rport true w) (
    sB1 t rhost rport (decide (rhost > (255 : Int))) w)) = kstep Try.prog 50 Try.f45.results.toList (Try.f45.body.getD .skip) (sockm_Table_Connect.RV R) (kvc Try.prog 50 Try.f45.results.toList (Try.f45.body.getD .skip) (sockm_Table_Connect.RV R) [([(0, [1, 0, 1]), (0, [1, 1])], fun σ w => dP (slotOf σ 0) fun t_ => dI .i64 (slotOf σ 1) fun rhost_ => dI .i64 (slotOf σ 2) fun rport_ => dB (slotOf σ 15) fun t15_ => sB1 t_ rhost_ rport_ t15_ w)] 2000) [(0, [])] [(0, .pointer t), (1, .int .i64 rhost), (2, .int .i64 rport)] w := by kernel_rfl
theorem sockm_Table_Connect.B0_sound {R : Int → Int → World → Prop}  (t : Option Addr) (rhost rport : Int) (w : World) (h : sockm_Table_Connect.B0 t rhost rport w   R) :
    KW Try.prog 45 50 (sockm_Table_Connect.RV R) ([(0, [])].map (toItem (Try.f45.body.getD .skip))) [(0, .pointer t), (1, .int .i64 rhost), (2, .int .i64 rport)] w := by
  exact block_spec Try.func45 Try.mixed (stops_cons (fun σ w h => by
      obtain ⟨t_, e0, h⟩ := dP_elim h
      obtain ⟨rhost_, e1, h⟩ := dI_elim h
      obtain ⟨rport_, e2, h⟩ := dI_elim h
      obtain ⟨t15_, e3, h⟩ := dB_elim h
      exact (sockm_Table_Connect.B1_sound  t_ rhost_ rport_ t15_ w h).weaken (Sub.cons (Sub.cons (Sub.cons (Sub.cons (Sub.nil _) e3) e2) e1) e0)) stops_nil) (Eq.mp (sockm_Table_Connect.B0_eq t rhost rport w   R (fun t_ rhost_ rport_ t15_ w => sockm_Table_Connect.B1 t_ rhost_ rport_ t15_ w  R)) h)
theorem sockm_Table_Connect.sound (t : Option Addr) (rhost rport : Int) (w : World) (R : Int → Int → World → Prop) (h : sockm_Table_Connect.B0 t rhost rport w R) : sockm_Table_Connect.Call t rhost rport w R := by
  have hc := calls_of_block (args := #[.pointer t, .int .i64 rhost, .int .i64 rport]) Try.func45 (body := (Try.f45.body.getD .skip)) (by kernel_rfl) (by kernel_rfl) (args_slot _) (sockm_Table_Connect.B0_sound t rhost rport w h)
  exact hc.mono fun e w' he => by
    obtain ⟨v, rfl, hv⟩ := he
    exact sockm_Table_Connect.RV_elim hv
end Go.Proofs.Qxb6500427a
