import Derived.Test.Qxb6500424aGreatSig
set_option maxRecDepth 100000
set_option linter.unusedVariables false
open Go.Vc
namespace Go.Proofs.Qxb6500424aGreat
def host_nobody.B2 (s t2 r : Nat) (n : Int) (w : World)   (R : Int → Int → Int → Int → Int → Int → Option Addr → Nat → Nat → World → Prop) : Prop :=
  Sts [.int .i64 (10 : Int)] ⟨r, 4, none⟩ 0 w fun w1 =>
  Sts [.int .i64 (0 : Int)] ⟨r, 2, none⟩ 0 w1 fun w2 =>
  LdI .i64 ⟨s, 2, none⟩ w2 fun x36 =>
  api_SeqAdd.Call x36 n w2 fun r38 w3 =>
  Sts [.int .i64 r38] ⟨r, 3, none⟩ 0 w3 fun w4 =>
  LdI .i64 ⟨r, 0, none⟩ w4 fun x40_0 =>
  LdI .i64 ⟨r, 1, none⟩ w4 fun x40_1 =>
  LdI .i64 ⟨r, 2, none⟩ w4 fun x40_2 =>
  LdI .i64 ⟨r, 3, none⟩ w4 fun x40_3 =>
  LdI .i64 ⟨r, 4, none⟩ w4 fun x40_4 =>
  LdI .i64 ⟨r, 5, none⟩ w4 fun x40_5 =>
  LdL ⟨r, 6, none⟩ w4 fun x40_6_b x40_6_l x40_6_c =>
  Sts [.int .i64 x40_0, .int .i64 x40_1, .int .i64 x40_2, .int .i64 x40_3, .int .i64 x40_4, .int .i64 x40_5, .slice x40_6_b x40_6_l x40_6_c] ⟨t2, 0, none⟩ 0 w4 fun w5 =>
  LdI .i64 ⟨t2, 0, none⟩ w5 fun r_0 =>
  LdI .i64 ⟨t2, 1, none⟩ w5 fun r_1 =>
  LdI .i64 ⟨t2, 2, none⟩ w5 fun r_2 =>
  LdI .i64 ⟨t2, 3, none⟩ w5 fun r_3 =>
  LdI .i64 ⟨t2, 4, none⟩ w5 fun r_4 =>
  LdI .i64 ⟨t2, 5, none⟩ w5 fun r_5 =>
  LdL ⟨t2, 6, none⟩ w5 fun r_6_b r_6_l r_6_c =>
  R r_0 r_1 r_2 r_3 r_4 r_5 r_6_b r_6_l r_6_c w5
theorem host_nobody.B2_eq (s t2 r : Nat) (n : Int) (w : World)   (R : Int → Int → Int → Int → Int → Int → Option Addr → Nat → Nat → World → Prop)  :
    (
  Sts [.int .i64 (10 : Int)] ⟨r, 4, none⟩ 0 w fun w1 =>
  Sts [.int .i64 (0 : Int)] ⟨r, 2, none⟩ 0 w1 fun w2 =>
  LdI .i64 ⟨s, 2, none⟩ w2 fun x36 =>
  api_SeqAdd.Call x36 n w2 fun r38 w3 =>
  Sts [.int .i64 r38] ⟨r, 3, none⟩ 0 w3 fun w4 =>
  LdI .i64 ⟨r, 0, none⟩ w4 fun x40_0 =>
  LdI .i64 ⟨r, 1, none⟩ w4 fun x40_1 =>
  LdI .i64 ⟨r, 2, none⟩ w4 fun x40_2 =>
  LdI .i64 ⟨r, 3, none⟩ w4 fun x40_3 =>
  LdI .i64 ⟨r, 4, none⟩ w4 fun x40_4 =>
  LdI .i64 ⟨r, 5, none⟩ w4 fun x40_5 =>
  LdL ⟨r, 6, none⟩ w4 fun x40_6_b x40_6_l x40_6_c =>
  Sts [.int .i64 x40_0, .int .i64 x40_1, .int .i64 x40_2, .int .i64 x40_3, .int .i64 x40_4, .int .i64 x40_5, .slice x40_6_b x40_6_l x40_6_c] ⟨t2, 0, none⟩ 0 w4 fun w5 =>
  LdI .i64 ⟨t2, 0, none⟩ w5 fun r_0 =>
  LdI .i64 ⟨t2, 1, none⟩ w5 fun r_1 =>
  LdI .i64 ⟨t2, 2, none⟩ w5 fun r_2 =>
  LdI .i64 ⟨t2, 3, none⟩ w5 fun r_3 =>
  LdI .i64 ⟨t2, 4, none⟩ w5 fun r_4 =>
  LdI .i64 ⟨t2, 5, none⟩ w5 fun r_5 =>
  LdL ⟨t2, 6, none⟩ w5 fun r_6_b r_6_l r_6_c =>
  R r_0 r_1 r_2 r_3 r_4 r_5 r_6_b r_6_l r_6_c w5) = kstep Tryz.prog 41 Tryz.f120.results.toList (Tryz.f120.body.getD .skip) (host_nobody.RV R) (kvc Tryz.prog 41 Tryz.f120.results.toList (Tryz.f120.body.getD .skip) (host_nobody.RV R) [] 2000) [(0, [1, 1, 1, 1, 1, 1])] [(1, .pointer (some ⟨s, 0, none⟩)), (2, .pointer (some ⟨t2, 0, none⟩)), (3, .pointer (some ⟨r, 0, none⟩)), (4, .int .i64 n)] w := by kernel_rfl
theorem host_nobody.B2_sound {R : Int → Int → Int → Int → Int → Int → Option Addr → Nat → Nat → World → Prop}  (s t2 r : Nat) (n : Int) (w : World) (h : host_nobody.B2 s t2 r n w   R) :
    KW Tryz.prog 120 41 (host_nobody.RV R) ([(0, [1, 1, 1, 1, 1, 1])].map (toItem (Tryz.f120.body.getD .skip))) [(1, .pointer (some ⟨s, 0, none⟩)), (2, .pointer (some ⟨t2, 0, none⟩)), (3, .pointer (some ⟨r, 0, none⟩)), (4, .int .i64 n)] w := by
  exact block_spec Tryz.func120 Tryz.mixed stops_nil (Eq.mp (host_nobody.B2_eq s t2 r n w   R ) h)
def host_nobody.B1 (s t2 r : Nat) (n : Int) (w : World)   (R : Int → Int → Int → Int → Int → Int → Option Addr → Nat → Nat → World → Prop) : Prop :=
  LdI .i64 ⟨s, 4, none⟩ w fun x28 =>
  Bm ((IntKind.i64.wrap (BitVec.ofInt IntKind.i64.bits x28 &&& BitVec.ofInt IntKind.i64.bits (4 : Int)).toNat) != (0 : Int)) (
    host_nobody.B2 s t2 r (IntKind.i64.wrap (n + (1 : Int))) w  R) (
    host_nobody.B2 s t2 r n w  R)
theorem host_nobody.B1_eq (s t2 r : Nat) (n : Int) (w : World)   (R : Int → Int → Int → Int → Int → Int → Option Addr → Nat → Nat → World → Prop) (sB2 : Nat → Nat → Nat → Int → World → Prop) :
    (
  LdI .i64 ⟨s, 4, none⟩ w fun x28 =>
  Bm ((IntKind.i64.wrap (BitVec.ofInt IntKind.i64.bits x28 &&& BitVec.ofInt IntKind.i64.bits (4 : Int)).toNat) != (0 : Int)) (
    sB2 s t2 r (IntKind.i64.wrap (n + (1 : Int))) w) (
    sB2 s t2 r n w)) = kstep Tryz.prog 41 Tryz.f120.results.toList (Tryz.f120.body.getD .skip) (host_nobody.RV R) (kvc Tryz.prog 41 Tryz.f120.results.toList (Tryz.f120.body.getD .skip) (host_nobody.RV R) [([(0, [1, 1, 1, 1, 1, 1])], fun σ w => dK (slotOf σ 1) fun s_ => dK (slotOf σ 2) fun t2_ => dK (slotOf σ 3) fun r_ => dI .i64 (slotOf σ 4) fun n_ => sB2 s_ t2_ r_ n_ w)] 2000) [(0, [1, 1, 1, 1, 1])] [(1, .pointer (some ⟨s, 0, none⟩)), (2, .pointer (some ⟨t2, 0, none⟩)), (3, .pointer (some ⟨r, 0, none⟩)), (4, .int .i64 n)] w := by kernel_rfl
theorem host_nobody.B1_sound {R : Int → Int → Int → Int → Int → Int → Option Addr → Nat → Nat → World → Prop}  (s t2 r : Nat) (n : Int) (w : World) (h : host_nobody.B1 s t2 r n w   R) :
    KW Tryz.prog 120 41 (host_nobody.RV R) ([(0, [1, 1, 1, 1, 1])].map (toItem (Tryz.f120.body.getD .skip))) [(1, .pointer (some ⟨s, 0, none⟩)), (2, .pointer (some ⟨t2, 0, none⟩)), (3, .pointer (some ⟨r, 0, none⟩)), (4, .int .i64 n)] w := by
  exact block_spec Tryz.func120 Tryz.mixed (stops_cons (fun σ w h => by
      obtain ⟨s_, e0, h⟩ := dK_elim h
      obtain ⟨t2_, e1, h⟩ := dK_elim h
      obtain ⟨r_, e2, h⟩ := dK_elim h
      obtain ⟨n_, e3, h⟩ := dI_elim h
      exact (host_nobody.B2_sound  s_ t2_ r_ n_ w h).weaken (Sub.cons (Sub.cons (Sub.cons (Sub.cons (Sub.nil _) e3) e2) e1) e0)) stops_nil) (Eq.mp (host_nobody.B1_eq s t2 r n w   R (fun s_ t2_ r_ n_ w => host_nobody.B2 s_ t2_ r_ n_ w  R)) h)
def host_nobody.B0 (s_0 s_1 s_2 s_3 s_4 s_5 : Int) (s_6_b : Option Addr) (s_6_l s_6_c : Nat) (w : World)   (R : Int → Int → Int → Int → Int → Int → Option Addr → Nat → Nat → World → Prop) : Prop :=
  New (.cells #[.int .i64 s_0, .int .i64 s_1, .int .i64 s_2, .int .i64 s_3, .int .i64 s_4, .int .i64 s_5, .slice s_6_b s_6_l s_6_c] 177) w fun s_ w1 =>
  New (.cells #[.int .i64 (0 : Int), .int .i64 (0 : Int), .int .i64 (0 : Int), .int .i64 (0 : Int), .int .i64 (0 : Int), .int .i64 (0 : Int), .slice none 0 0] 177) w1 fun b2 w2 =>
  LdI .i64 ⟨s_, 1, none⟩ w2 fun x6 =>
  LdI .i64 ⟨s_, 0, none⟩ w2 fun x8 =>
  LdI .i64 ⟨s_, 3, none⟩ w2 fun x10 =>
  New (.cells #[] 5) w2 fun b11 w3 =>
  New (.cells #[.int .i64 (0 : Int), .int .i64 (0 : Int), .int .i64 (0 : Int), .int .i64 (0 : Int), .int .i64 (0 : Int), .int .i64 (0 : Int), .slice none 0 0] 177) w3 fun r_ w4 =>
  Sts [.int .i64 x6, .int .i64 x8, .int .i64 x10, .int .i64 (0 : Int), .int .i64 (8 : Int), .int .i64 (0 : Int), .slice (some ⟨b11, 0, none⟩) 0 0] ⟨r_, 0, none⟩ 0 w4 fun w5 =>
  LdI .i64 ⟨s_, 4, none⟩ w5 fun x14 =>
  Bm ((IntKind.i64.wrap (BitVec.ofInt IntKind.i64.bits x14 &&& BitVec.ofInt IntKind.i64.bits (2 : Int)).toNat) != (0 : Int)) (
    LdI .i64 ⟨r_, 0, none⟩ w5 fun x17_0 =>
    LdI .i64 ⟨r_, 1, none⟩ w5 fun x17_1 =>
    LdI .i64 ⟨r_, 2, none⟩ w5 fun x17_2 =>
    LdI .i64 ⟨r_, 3, none⟩ w5 fun x17_3 =>
    LdI .i64 ⟨r_, 4, none⟩ w5 fun x17_4 =>
    LdI .i64 ⟨r_, 5, none⟩ w5 fun x17_5 =>
    LdL ⟨r_, 6, none⟩ w5 fun x17_6_b x17_6_l x17_6_c =>
    Sts [.int .i64 x17_0, .int .i64 x17_1, .int .i64 x17_2, .int .i64 x17_3, .int .i64 x17_4, .int .i64 x17_5, .slice x17_6_b x17_6_l x17_6_c] ⟨b2, 0, none⟩ 0 w5 fun w6 =>
    LdI .i64 ⟨b2, 0, none⟩ w6 fun r_0 =>
    LdI .i64 ⟨b2, 1, none⟩ w6 fun r_1 =>
    LdI .i64 ⟨b2, 2, none⟩ w6 fun r_2 =>
    LdI .i64 ⟨b2, 3, none⟩ w6 fun r_3 =>
    LdI .i64 ⟨b2, 4, none⟩ w6 fun r_4 =>
    LdI .i64 ⟨b2, 5, none⟩ w6 fun r_5 =>
    LdL ⟨b2, 6, none⟩ w6 fun r_6_b r_6_l r_6_c =>
    R r_0 r_1 r_2 r_3 r_4 r_5 r_6_b r_6_l r_6_c w6) (
    LdL ⟨s_, 6, none⟩ w5 fun x19_b x19_l x19_c =>
    LdI .i64 ⟨s_, 4, none⟩ w5 fun x22 =>
    Bm ((IntKind.i64.wrap (BitVec.ofInt IntKind.i64.bits x22 &&& BitVec.ofInt IntKind.i64.bits (1 : Int)).toNat) != (0 : Int)) (
      host_nobody.B1 s_ b2 r_ (IntKind.i64.wrap (((x19_l : Nat) : Int) + (1 : Int))) w5  R) (
      host_nobody.B1 s_ b2 r_ ((x19_l : Nat) : Int) w5  R))
theorem host_nobody.B0_eq (s_0 s_1 s_2 s_3 s_4 s_5 : Int) (s_6_b : Option Addr) (s_6_l s_6_c : Nat) (w : World)   (R : Int → Int → Int → Int → Int → Int → Option Addr → Nat → Nat → World → Prop) (sB1 : Nat → Nat → Nat → Int → World → Prop) :
    (
  New (.cells #[.int .i64 s_0, .int .i64 s_1, .int .i64 s_2, .int .i64 s_3, .int .i64 s_4, .int .i64 s_5, .slice s_6_b s_6_l s_6_c] 177) w fun s_ w1 =>
  New (.cells #[.int .i64 (0 : Int), .int .i64 (0 : Int), .int .i64 (0 : Int), .int .i64 (0 : Int), .int .i64 (0 : Int), .int .i64 (0 : Int), .slice none 0 0] 177) w1 fun b2 w2 =>
  LdI .i64 ⟨s_, 1, none⟩ w2 fun x6 =>
  LdI .i64 ⟨s_, 0, none⟩ w2 fun x8 =>
  LdI .i64 ⟨s_, 3, none⟩ w2 fun x10 =>
  New (.cells #[] 5) w2 fun b11 w3 =>
  New (.cells #[.int .i64 (0 : Int), .int .i64 (0 : Int), .int .i64 (0 : Int), .int .i64 (0 : Int), .int .i64 (0 : Int), .int .i64 (0 : Int), .slice none 0 0] 177) w3 fun r_ w4 =>
  Sts [.int .i64 x6, .int .i64 x8, .int .i64 x10, .int .i64 (0 : Int), .int .i64 (8 : Int), .int .i64 (0 : Int), .slice (some ⟨b11, 0, none⟩) 0 0] ⟨r_, 0, none⟩ 0 w4 fun w5 =>
  LdI .i64 ⟨s_, 4, none⟩ w5 fun x14 =>
  Bm ((IntKind.i64.wrap (BitVec.ofInt IntKind.i64.bits x14 &&& BitVec.ofInt IntKind.i64.bits (2 : Int)).toNat) != (0 : Int)) (
    LdI .i64 ⟨r_, 0, none⟩ w5 fun x17_0 =>
    LdI .i64 ⟨r_, 1, none⟩ w5 fun x17_1 =>
    LdI .i64 ⟨r_, 2, none⟩ w5 fun x17_2 =>
    LdI .i64 ⟨r_, 3, none⟩ w5 fun x17_3 =>
    LdI .i64 ⟨r_, 4, none⟩ w5 fun x17_4 =>
    LdI .i64 ⟨r_, 5, none⟩ w5 fun x17_5 =>
    LdL ⟨r_, 6, none⟩ w5 fun x17_6_b x17_6_l x17_6_c =>
    Sts [.int .i64 x17_0, .int .i64 x17_1, .int .i64 x17_2, .int .i64 x17_3, .int .i64 x17_4, .int .i64 x17_5, .slice x17_6_b x17_6_l x17_6_c] ⟨b2, 0, none⟩ 0 w5 fun w6 =>
    LdI .i64 ⟨b2, 0, none⟩ w6 fun r_0 =>
    LdI .i64 ⟨b2, 1, none⟩ w6 fun r_1 =>
    LdI .i64 ⟨b2, 2, none⟩ w6 fun r_2 =>
    LdI .i64 ⟨b2, 3, none⟩ w6 fun r_3 =>
    LdI .i64 ⟨b2, 4, none⟩ w6 fun r_4 =>
    LdI .i64 ⟨b2, 5, none⟩ w6 fun r_5 =>
    LdL ⟨b2, 6, none⟩ w6 fun r_6_b r_6_l r_6_c =>
    R r_0 r_1 r_2 r_3 r_4 r_5 r_6_b r_6_l r_6_c w6) (
    LdL ⟨s_, 6, none⟩ w5 fun x19_b x19_l x19_c =>
    LdI .i64 ⟨s_, 4, none⟩ w5 fun x22 =>
    Bm ((IntKind.i64.wrap (BitVec.ofInt IntKind.i64.bits x22 &&& BitVec.ofInt IntKind.i64.bits (1 : Int)).toNat) != (0 : Int)) (
      sB1 s_ b2 r_ (IntKind.i64.wrap (((x19_l : Nat) : Int) + (1 : Int))) w5) (
      sB1 s_ b2 r_ ((x19_l : Nat) : Int) w5))) = kstep Tryz.prog 41 Tryz.f120.results.toList (Tryz.f120.body.getD .skip) (host_nobody.RV R) (kvc Tryz.prog 41 Tryz.f120.results.toList (Tryz.f120.body.getD .skip) (host_nobody.RV R) [([(0, [1, 1, 1, 1, 1])], fun σ w => dK (slotOf σ 1) fun s_ => dK (slotOf σ 2) fun t2_ => dK (slotOf σ 3) fun r_ => dI .i64 (slotOf σ 4) fun n_ => sB1 s_ t2_ r_ n_ w)] 2000) [(0, [])] [(0, .agg #[.int .i64 s_0, .int .i64 s_1, .int .i64 s_2, .int .i64 s_3, .int .i64 s_4, .int .i64 s_5, .slice s_6_b s_6_l s_6_c])] w := by kernel_rfl
theorem host_nobody.B0_sound {R : Int → Int → Int → Int → Int → Int → Option Addr → Nat → Nat → World → Prop}  (s_0 s_1 s_2 s_3 s_4 s_5 : Int) (s_6_b : Option Addr) (s_6_l s_6_c : Nat) (w : World) (h : host_nobody.B0 s_0 s_1 s_2 s_3 s_4 s_5 s_6_b s_6_l s_6_c w   R) :
    KW Tryz.prog 120 41 (host_nobody.RV R) ([(0, [])].map (toItem (Tryz.f120.body.getD .skip))) [(0, .agg #[.int .i64 s_0, .int .i64 s_1, .int .i64 s_2, .int .i64 s_3, .int .i64 s_4, .int .i64 s_5, .slice s_6_b s_6_l s_6_c])] w := by
  exact block_spec Tryz.func120 Tryz.mixed (stops_cons (fun σ w h => by
      obtain ⟨s_, e0, h⟩ := dK_elim h
      obtain ⟨t2_, e1, h⟩ := dK_elim h
      obtain ⟨r_, e2, h⟩ := dK_elim h
      obtain ⟨n_, e3, h⟩ := dI_elim h
      exact (host_nobody.B1_sound  s_ t2_ r_ n_ w h).weaken (Sub.cons (Sub.cons (Sub.cons (Sub.cons (Sub.nil _) e3) e2) e1) e0)) stops_nil) (Eq.mp (host_nobody.B0_eq s_0 s_1 s_2 s_3 s_4 s_5 s_6_b s_6_l s_6_c w   R (fun s_ t2_ r_ n_ w => host_nobody.B1 s_ t2_ r_ n_ w  R)) h)
theorem host_nobody.sound (s_0 s_1 s_2 s_3 s_4 s_5 : Int) (s_6_b : Option Addr) (s_6_l s_6_c : Nat) (w : World) (R : Int → Int → Int → Int → Int → Int → Option Addr → Nat → Nat → World → Prop) (h : host_nobody.B0 s_0 s_1 s_2 s_3 s_4 s_5 s_6_b s_6_l s_6_c w R) : host_nobody.Call s_0 s_1 s_2 s_3 s_4 s_5 s_6_b s_6_l s_6_c w R := by
  have hc := calls_of_block (args := #[.agg #[.int .i64 s_0, .int .i64 s_1, .int .i64 s_2, .int .i64 s_3, .int .i64 s_4, .int .i64 s_5, .slice s_6_b s_6_l s_6_c]]) Tryz.func120 (body := (Tryz.f120.body.getD .skip)) (by kernel_rfl) (by kernel_rfl) (args_slot _) (host_nobody.B0_sound s_0 s_1 s_2 s_3 s_4 s_5 s_6_b s_6_l s_6_c w h)
  exact hc.mono fun e w' he => by
    obtain ⟨v, rfl, hv⟩ := he
    exact host_nobody.RV_elim hv
def host_Host_send.B1 (h0 out_b : Option Addr) (out_l out_c : Nat) (dst : Int) (pk_b : Option Addr) (pk_l pk_c : Nat) (i : Int) (w : World) (N1 : Option Addr → Option Addr → Nat → Nat → Int → Option Addr → Nat → Nat → Int → World → Prop)  (R : Option Addr → Nat → Nat → World → Prop) : Prop :=
  N1 h0 out_b out_l out_c dst pk_b pk_l pk_c (IntKind.i64.wrap (i + (1 : Int))) w
theorem host_Host_send.B1_eq (h0 out_b : Option Addr) (out_l out_c : Nat) (dst : Int) (pk_b : Option Addr) (pk_l pk_c : Nat) (i : Int) (w : World) (N1 : Option Addr → Option Addr → Nat → Nat → Int → Option Addr → Nat → Nat → Int → World → Prop)  (R : Option Addr → Nat → Nat → World → Prop)  :
    (
  N1 h0 out_b out_l out_c dst pk_b pk_l pk_c (IntKind.i64.wrap (i + (1 : Int))) w) = kstep Tryz.prog 74 Tryz.f121.results.toList (Tryz.f121.body.getD .skip) (host_Host_send.RV R) (kvc Tryz.prog 74 Tryz.f121.results.toList (Tryz.f121.body.getD .skip) (host_Host_send.RV R) [([(0, [1, 1, 1, 1, 1, 0, 1, 0, 0]), (2, [1, 1, 1, 1, 1, 0, 1, 0, 0]), (1, [0]), (0, [1, 1, 1, 1, 1, 1])], fun σ w => dP (slotOf σ 0) fun h0_ => dL (slotOf σ 1) fun out_b_ out_l_ out_c_ => dI .i64 (slotOf σ 2) fun dst_ => dL (slotOf σ 11) fun pk_b_ pk_l_ pk_c_ => dI .i64 (slotOf σ 12) fun i_ => N1 h0_ out_b_ out_l_ out_c_ dst_ pk_b_ pk_l_ pk_c_ i_ w)] 2000) [(0, [1, 1, 1, 1, 1, 0, 1, 0, 0, 1, 1]), (2, [1, 1, 1, 1, 1, 0, 1, 0, 0]), (1, [0]), (0, [1, 1, 1, 1, 1, 1])] [(0, .pointer h0), (1, .slice out_b out_l out_c), (2, .int .i64 dst), (11, .slice pk_b pk_l pk_c), (12, .int .i64 i)] w := by kernel_rfl
theorem host_Host_send.B1_sound {R : Option Addr → Nat → Nat → World → Prop} {N1 : Option Addr → Option Addr → Nat → Nat → Int → Option Addr → Nat → Nat → Int → World → Prop} (hN1 : ∀ h0 out_b out_l out_c dst pk_b pk_l pk_c i w, N1 h0 out_b out_l out_c dst pk_b pk_l pk_c i w → KW Tryz.prog 121 74 (host_Host_send.RV R) ([(0, [1, 1, 1, 1, 1, 0, 1, 0, 0]), (2, [1, 1, 1, 1, 1, 0, 1, 0, 0]), (1, [0]), (0, [1, 1, 1, 1, 1, 1])].map (toItem (Tryz.f121.body.getD .skip))) [(0, .pointer h0), (1, .slice out_b out_l out_c), (2, .int .i64 dst), (11, .slice pk_b pk_l pk_c), (12, .int .i64 i)] w) (h0 out_b : Option Addr) (out_l out_c : Nat) (dst : Int) (pk_b : Option Addr) (pk_l pk_c : Nat) (i : Int) (w : World) (h : host_Host_send.B1 h0 out_b out_l out_c dst pk_b pk_l pk_c i w N1  R) :
    KW Tryz.prog 121 74 (host_Host_send.RV R) ([(0, [1, 1, 1, 1, 1, 0, 1, 0, 0, 1, 1]), (2, [1, 1, 1, 1, 1, 0, 1, 0, 0]), (1, [0]), (0, [1, 1, 1, 1, 1, 1])].map (toItem (Tryz.f121.body.getD .skip))) [(0, .pointer h0), (1, .slice out_b out_l out_c), (2, .int .i64 dst), (11, .slice pk_b pk_l pk_c), (12, .int .i64 i)] w := by
  exact block_spec Tryz.func121 Tryz.mixed (stops_cons (fun σ w h => by
      obtain ⟨h0_, e0, h⟩ := dP_elim h
      obtain ⟨out_b_, out_l_, out_c_, e1, h⟩ := dL_elim h
      obtain ⟨dst_, e2, h⟩ := dI_elim h
      obtain ⟨pk_b_, pk_l_, pk_c_, e3, h⟩ := dL_elim h
      obtain ⟨i_, e4, h⟩ := dI_elim h
      exact (hN1 h0_ out_b_ out_l_ out_c_ dst_ pk_b_ pk_l_ pk_c_ i_ w h).weaken (Sub.cons (Sub.cons (Sub.cons (Sub.cons (Sub.cons (Sub.nil _) e4) e3) e2) e1) e0)) stops_nil) (Eq.mp (host_Host_send.B1_eq h0 out_b out_l out_c dst pk_b pk_l pk_c i w N1  R ) h)
def host_Host_send.L1b (h0 out_b : Option Addr) (out_l out_c : Nat) (dst : Int) (pk_b : Option Addr) (pk_l pk_c : Nat) (i : Int) (w : World)  (N1 : Option Addr → Option Addr → Nat → Nat → Int → Option Addr → Nat → Nat → Int → World → Prop) (R : Option Addr → Nat → Nat → World → Prop) : Prop :=
  Bm (decide (i < ((pk_l : Nat) : Int))) (
    Pn h0 fun a =>
    LdP (a.add 11) w.drew fun x58 =>
    Pn pk_b fun a_1 =>
    (0 ≤ i ∧ i < ((pk_l : Nat) : Int)) ∧
    LdL (Addr.add a_1 (i.toNat * 1)) w.drew fun x63_b x63_l x63_c =>
    frame_Link_Encode.Call x58 dst (1 : Int) x63_b x63_l x63_c w.drew fun r64_0_b r64_0_l r64_0_c r64_1 w1 =>
    Bm (r64_1 == (0 : Int)) (
      New (.cells #[.slice r64_0_b r64_0_l r64_0_c] 81) w1 fun b71 w2 =>
      Append 81 (.slice none 0 0) 1 24 out_b out_l out_c (some ⟨b71, 0, none⟩) 1 w2 fun b72 c72 w3 =>
      host_Host_send.B1 h0 b72 (out_l + 1) c72 dst pk_b pk_l pk_c i w3 N1 R) (
      host_Host_send.B1 h0 out_b out_l out_c dst pk_b pk_l pk_c i w1 N1 R)) (
    R out_b out_l out_c w)
theorem host_Host_send.L1b_eq (h0 out_b : Option Addr) (out_l out_c : Nat) (dst : Int) (pk_b : Option Addr) (pk_l pk_c : Nat) (i : Int) (w : World)  (N1 : Option Addr → Option Addr → Nat → Nat → Int → Option Addr → Nat → Nat → Int → World → Prop) (R : Option Addr → Nat → Nat → World → Prop) (sB1 : Option Addr → Option Addr → Nat → Nat → Int → Option Addr → Nat → Nat → Int → World → Prop) :
    (
  Bm (decide (i < ((pk_l : Nat) : Int))) (
    Pn h0 fun a =>
    LdP (a.add 11) w.drew fun x58 =>
    Pn pk_b fun a_1 =>
    (0 ≤ i ∧ i < ((pk_l : Nat) : Int)) ∧
    LdL (Addr.add a_1 (i.toNat * 1)) w.drew fun x63_b x63_l x63_c =>
    frame_Link_Encode.Call x58 dst (1 : Int) x63_b x63_l x63_c w.drew fun r64_0_b r64_0_l r64_0_c r64_1 w1 =>
    Bm (r64_1 == (0 : Int)) (
      New (.cells #[.slice r64_0_b r64_0_l r64_0_c] 81) w1 fun b71 w2 =>
      Append 81 (.slice none 0 0) 1 24 out_b out_l out_c (some ⟨b71, 0, none⟩) 1 w2 fun b72 c72 w3 =>
      sB1 h0 b72 (out_l + 1) c72 dst pk_b pk_l pk_c i w3) (
      sB1 h0 out_b out_l out_c dst pk_b pk_l pk_c i w1)) (
    R out_b out_l out_c w)) = kstep Tryz.prog 74 Tryz.f121.results.toList (Tryz.f121.body.getD .skip) (host_Host_send.RV R) (kvc Tryz.prog 74 Tryz.f121.results.toList (Tryz.f121.body.getD .skip) (host_Host_send.RV R) [([(0, [1, 1, 1, 1, 1, 0, 1, 0, 0, 1, 1]), (2, [1, 1, 1, 1, 1, 0, 1, 0, 0]), (1, [0]), (0, [1, 1, 1, 1, 1, 1])], fun σ w => dP (slotOf σ 0) fun h0_ => dL (slotOf σ 1) fun out_b_ out_l_ out_c_ => dI .i64 (slotOf σ 2) fun dst_ => dL (slotOf σ 11) fun pk_b_ pk_l_ pk_c_ => dI .i64 (slotOf σ 12) fun i_ => sB1 h0_ out_b_ out_l_ out_c_ dst_ pk_b_ pk_l_ pk_c_ i_ w)] 2000) [(0, [1, 1, 1, 1, 1, 0, 1, 0, 0]), (2, [1, 1, 1, 1, 1, 0, 1, 0, 0]), (1, [0]), (0, [1, 1, 1, 1, 1, 1])] [(0, .pointer h0), (1, .slice out_b out_l out_c), (2, .int .i64 dst), (11, .slice pk_b pk_l pk_c), (12, .int .i64 i)] w := by kernel_rfl
theorem host_Host_send.L1b_sound {R : Option Addr → Nat → Nat → World → Prop} {N1 : Option Addr → Option Addr → Nat → Nat → Int → Option Addr → Nat → Nat → Int → World → Prop} (hN1 : ∀ h0 out_b out_l out_c dst pk_b pk_l pk_c i w, N1 h0 out_b out_l out_c dst pk_b pk_l pk_c i w → KW Tryz.prog 121 74 (host_Host_send.RV R) ([(0, [1, 1, 1, 1, 1, 0, 1, 0, 0]), (2, [1, 1, 1, 1, 1, 0, 1, 0, 0]), (1, [0]), (0, [1, 1, 1, 1, 1, 1])].map (toItem (Tryz.f121.body.getD .skip))) [(0, .pointer h0), (1, .slice out_b out_l out_c), (2, .int .i64 dst), (11, .slice pk_b pk_l pk_c), (12, .int .i64 i)] w) (h0 out_b : Option Addr) (out_l out_c : Nat) (dst : Int) (pk_b : Option Addr) (pk_l pk_c : Nat) (i : Int) (w : World) (h : host_Host_send.L1b h0 out_b out_l out_c dst pk_b pk_l pk_c i w  N1 R) :
    KW Tryz.prog 121 74 (host_Host_send.RV R) ([(0, [1, 1, 1, 1, 1, 0, 1, 0, 0]), (2, [1, 1, 1, 1, 1, 0, 1, 0, 0]), (1, [0]), (0, [1, 1, 1, 1, 1, 1])].map (toItem (Tryz.f121.body.getD .skip))) [(0, .pointer h0), (1, .slice out_b out_l out_c), (2, .int .i64 dst), (11, .slice pk_b pk_l pk_c), (12, .int .i64 i)] w := by
  exact block_spec Tryz.func121 Tryz.mixed (stops_cons (fun σ w h => by
      obtain ⟨h0_, e0, h⟩ := dP_elim h
      obtain ⟨out_b_, out_l_, out_c_, e1, h⟩ := dL_elim h
      obtain ⟨dst_, e2, h⟩ := dI_elim h
      obtain ⟨pk_b_, pk_l_, pk_c_, e3, h⟩ := dL_elim h
      obtain ⟨i_, e4, h⟩ := dI_elim h
      exact (host_Host_send.B1_sound hN1 h0_ out_b_ out_l_ out_c_ dst_ pk_b_ pk_l_ pk_c_ i_ w h).weaken (Sub.cons (Sub.cons (Sub.cons (Sub.cons (Sub.cons (Sub.nil _) e4) e3) e2) e1) e0)) stops_nil) (Eq.mp (host_Host_send.L1b_eq h0 out_b out_l out_c dst pk_b pk_l pk_c i w  N1 R (fun h0_ out_b_ out_l_ out_c_ dst_ pk_b_ pk_l_ pk_c_ i_ w => host_Host_send.B1 h0_ out_b_ out_l_ out_c_ dst_ pk_b_ pk_l_ pk_c_ i_ w N1 R)) h)
def host_Host_send.L1 (h0 out_b : Option Addr) (out_l out_c : Nat) (dst : Int) (pk_b : Option Addr) (pk_l pk_c : Nat) (i : Int) (w : World)  (R : Option Addr → Nat → Nat → World → Prop) : Prop :=
  ∃ (I : Nat → Option Addr → Option Addr → Nat → Nat → Int → Option Addr → Nat → Nat → Int → World → Prop) (m : Nat), I m h0 out_b out_l out_c dst pk_b pk_l pk_c i w ∧ ∀ m h0 out_b out_l out_c dst pk_b pk_l pk_c i w, I m h0 out_b out_l out_c dst pk_b pk_l pk_c i w → host_Host_send.L1b h0 out_b out_l out_c dst pk_b pk_l pk_c i w  (fun h0' out_b' out_l' out_c' dst' pk_b' pk_l' pk_c' i' w' => ∃ m', m' < m ∧ I m' h0' out_b' out_l' out_c' dst' pk_b' pk_l' pk_c' i' w') R
theorem host_Host_send.L1_sound {R : Option Addr → Nat → Nat → World → Prop}  (h0 out_b : Option Addr) (out_l out_c : Nat) (dst : Int) (pk_b : Option Addr) (pk_l pk_c : Nat) (i : Int) (w : World) (h : host_Host_send.L1 h0 out_b out_l out_c dst pk_b pk_l pk_c i w  R) :
    KW Tryz.prog 121 74 (host_Host_send.RV R) ([(0, [1, 1, 1, 1, 1, 0, 1, 0, 0]), (2, [1, 1, 1, 1, 1, 0, 1, 0, 0]), (1, [0]), (0, [1, 1, 1, 1, 1, 1])].map (toItem (Tryz.f121.body.getD .skip))) [(0, .pointer h0), (1, .slice out_b out_l out_c), (2, .int .i64 dst), (11, .slice pk_b pk_l pk_c), (12, .int .i64 i)] w := by
  obtain ⟨I, m, hBase, hr⟩ := h
  refine KW.loop (fun m σ w => ∃ (h0 out_b : Option Addr) (out_l out_c : Nat) (dst : Int) (pk_b : Option Addr) (pk_l pk_c : Nat) (i : Int), σ = [(0, .pointer h0), (1, .slice out_b out_l out_c), (2, .int .i64 dst), (11, .slice pk_b pk_l pk_c), (12, .int .i64 i)] ∧ I m h0 out_b out_l out_c dst pk_b pk_l pk_c i w) ?_ m _ w ⟨h0, out_b, out_l, out_c, dst, pk_b, pk_l, pk_c, i, rfl, hBase⟩
  rintro m ih σ w ⟨h0, out_b, out_l, out_c, dst, pk_b, pk_l, pk_c, i, rfl, hI⟩
  exact host_Host_send.L1b_sound  (N1 := fun h0' out_b' out_l' out_c' dst' pk_b' pk_l' pk_c' i' w' => ∃ m', m' < m ∧ I m' h0' out_b' out_l' out_c' dst' pk_b' pk_l' pk_c' i' w') (fun h0' out_b' out_l' out_c' dst' pk_b' pk_l' pk_c' i' w' hx => by obtain ⟨m', hlt, hI'⟩ := hx; exact ih m' hlt _ w' ⟨h0', out_b', out_l', out_c', dst', pk_b', pk_l', pk_c', i', rfl, hI'⟩) h0 out_b out_l out_c dst pk_b pk_l pk_c i w (hr m h0 out_b out_l out_c dst pk_b pk_l pk_c i w hI)
def host_Host_send.B0 (h0 out_b : Option Addr) (out_l out_c : Nat) (dst s_0 s_1 s_2 s_3 s_4 s_5 : Int) (s_6_b : Option Addr) (s_6_l s_6_c : Nat) (w : World)   (R : Option Addr → Nat → Nat → World → Prop) : Prop :=
  New (.cells #[.int .i64 s_0, .int .i64 s_1, .int .i64 s_2, .int .i64 s_3, .int .i64 s_4, .int .i64 s_5, .slice s_6_b s_6_l s_6_c] 177) w fun s_ w1 =>
  Pn h0 fun a =>
  LdI .i64 a w1.drew fun x19 =>
  LdI .i64 ⟨s_, 0, none⟩ w1.drew fun x21_0 =>
  LdI .i64 ⟨s_, 1, none⟩ w1.drew fun x21_1 =>
  LdI .i64 ⟨s_, 2, none⟩ w1.drew fun x21_2 =>
  LdI .i64 ⟨s_, 3, none⟩ w1.drew fun x21_3 =>
  LdI .i64 ⟨s_, 4, none⟩ w1.drew fun x21_4 =>
  LdI .i64 ⟨s_, 5, none⟩ w1.drew fun x21_5 =>
  LdL ⟨s_, 6, none⟩ w1.drew fun x21_6_b x21_6_l x21_6_c =>
  seg_Encode.Call x19 dst x21_0 x21_1 x21_2 x21_3 x21_4 x21_5 x21_6_b x21_6_l x21_6_c w1.drew fun r22_0_b r22_0_l r22_0_c r22_1 w2 =>
  Bm (r22_1 != (0 : Int)) (
    R out_b out_l out_c w2) (
    Pn h0 fun a_1 =>
    LdP (a_1.add 12) w2 fun x32 =>
    ip_IP_Output.Call x32 dst (6 : Int) r22_0_b r22_0_l r22_0_c w2 fun r35_0_b r35_0_l r35_0_c r35_1 w3 =>
    Bm (r35_1 != (0 : Int)) (
      Pn h0 fun a_2 =>
      LdI .i64 (a_2.add 2) w3 fun x43 =>
      Pn h0 fun a_3 =>
      Sts [.int .i64 (IntKind.i64.wrap (x43 + (1 : Int)))] (a_3.add 2) 0 w3 fun w4 =>
      R out_b out_l out_c w4) (
      host_Host_send.L1 h0 out_b out_l out_c dst r35_0_b r35_0_l r35_0_c (0 : Int) w3  R))
theorem host_Host_send.B0_eq (h0 out_b : Option Addr) (out_l out_c : Nat) (dst s_0 s_1 s_2 s_3 s_4 s_5 : Int) (s_6_b : Option Addr) (s_6_l s_6_c : Nat) (w : World)   (R : Option Addr → Nat → Nat → World → Prop) (sL1 : Option Addr → Option Addr → Nat → Nat → Int → Option Addr → Nat → Nat → Int → World → Prop) :
    (
  New (.cells #[.int .i64 s_0, .int .i64 s_1, .int .i64 s_2, .int .i64 s_3, .int .i64 s_4, .int .i64 s_5, .slice s_6_b s_6_l s_6_c] 177) w fun s_ w1 =>
  Pn h0 fun a =>
  LdI .i64 a w1.drew fun x19 =>
  LdI .i64 ⟨s_, 0, none⟩ w1.drew fun x21_0 =>
  LdI .i64 ⟨s_, 1, none⟩ w1.drew fun x21_1 =>
  LdI .i64 ⟨s_, 2, none⟩ w1.drew fun x21_2 =>
  LdI .i64 ⟨s_, 3, none⟩ w1.drew fun x21_3 =>
  LdI .i64 ⟨s_, 4, none⟩ w1.drew fun x21_4 =>
  LdI .i64 ⟨s_, 5, none⟩ w1.drew fun x21_5 =>
  LdL ⟨s_, 6, none⟩ w1.drew fun x21_6_b x21_6_l x21_6_c =>
  seg_Encode.Call x19 dst x21_0 x21_1 x21_2 x21_3 x21_4 x21_5 x21_6_b x21_6_l x21_6_c w1.drew fun r22_0_b r22_0_l r22_0_c r22_1 w2 =>
  Bm (r22_1 != (0 : Int)) (
    R out_b out_l out_c w2) (
    Pn h0 fun a_1 =>
    LdP (a_1.add 12) w2 fun x32 =>
    ip_IP_Output.Call x32 dst (6 : Int) r22_0_b r22_0_l r22_0_c w2 fun r35_0_b r35_0_l r35_0_c r35_1 w3 =>
    Bm (r35_1 != (0 : Int)) (
      Pn h0 fun a_2 =>
      LdI .i64 (a_2.add 2) w3 fun x43 =>
      Pn h0 fun a_3 =>
      Sts [.int .i64 (IntKind.i64.wrap (x43 + (1 : Int)))] (a_3.add 2) 0 w3 fun w4 =>
      R out_b out_l out_c w4) (
      sL1 h0 out_b out_l out_c dst r35_0_b r35_0_l r35_0_c (0 : Int) w3))) = kstep Tryz.prog 74 Tryz.f121.results.toList (Tryz.f121.body.getD .skip) (host_Host_send.RV R) (kvc Tryz.prog 74 Tryz.f121.results.toList (Tryz.f121.body.getD .skip) (host_Host_send.RV R) [([(0, [1, 1, 1, 1, 1, 0, 1, 0, 0]), (2, [1, 1, 1, 1, 1, 0, 1, 0, 0]), (1, [0]), (0, [1, 1, 1, 1, 1, 1])], fun σ w => dP (slotOf σ 0) fun h0_ => dL (slotOf σ 1) fun out_b_ out_l_ out_c_ => dI .i64 (slotOf σ 2) fun dst_ => dL (slotOf σ 11) fun pk_b_ pk_l_ pk_c_ => dI .i64 (slotOf σ 12) fun i_ => sL1 h0_ out_b_ out_l_ out_c_ dst_ pk_b_ pk_l_ pk_c_ i_ w)] 2000) [(0, [])] [(0, .pointer h0), (1, .slice out_b out_l out_c), (2, .int .i64 dst), (3, .agg #[.int .i64 s_0, .int .i64 s_1, .int .i64 s_2, .int .i64 s_3, .int .i64 s_4, .int .i64 s_5, .slice s_6_b s_6_l s_6_c])] w := by kernel_rfl
theorem host_Host_send.B0_sound {R : Option Addr → Nat → Nat → World → Prop}  (h0 out_b : Option Addr) (out_l out_c : Nat) (dst s_0 s_1 s_2 s_3 s_4 s_5 : Int) (s_6_b : Option Addr) (s_6_l s_6_c : Nat) (w : World) (h : host_Host_send.B0 h0 out_b out_l out_c dst s_0 s_1 s_2 s_3 s_4 s_5 s_6_b s_6_l s_6_c w   R) :
    KW Tryz.prog 121 74 (host_Host_send.RV R) ([(0, [])].map (toItem (Tryz.f121.body.getD .skip))) [(0, .pointer h0), (1, .slice out_b out_l out_c), (2, .int .i64 dst), (3, .agg #[.int .i64 s_0, .int .i64 s_1, .int .i64 s_2, .int .i64 s_3, .int .i64 s_4, .int .i64 s_5, .slice s_6_b s_6_l s_6_c])] w := by
  exact block_spec Tryz.func121 Tryz.mixed (stops_cons (fun σ w h => by
      obtain ⟨h0_, e0, h⟩ := dP_elim h
      obtain ⟨out_b_, out_l_, out_c_, e1, h⟩ := dL_elim h
      obtain ⟨dst_, e2, h⟩ := dI_elim h
      obtain ⟨pk_b_, pk_l_, pk_c_, e3, h⟩ := dL_elim h
      obtain ⟨i_, e4, h⟩ := dI_elim h
      exact (host_Host_send.L1_sound  h0_ out_b_ out_l_ out_c_ dst_ pk_b_ pk_l_ pk_c_ i_ w h).weaken (Sub.cons (Sub.cons (Sub.cons (Sub.cons (Sub.cons (Sub.nil _) e4) e3) e2) e1) e0)) stops_nil) (Eq.mp (host_Host_send.B0_eq h0 out_b out_l out_c dst s_0 s_1 s_2 s_3 s_4 s_5 s_6_b s_6_l s_6_c w   R (fun h0_ out_b_ out_l_ out_c_ dst_ pk_b_ pk_l_ pk_c_ i_ w => host_Host_send.L1 h0_ out_b_ out_l_ out_c_ dst_ pk_b_ pk_l_ pk_c_ i_ w  R)) h)
theorem host_Host_send.sound (h0 out_b : Option Addr) (out_l out_c : Nat) (dst s_0 s_1 s_2 s_3 s_4 s_5 : Int) (s_6_b : Option Addr) (s_6_l s_6_c : Nat) (w : World) (R : Option Addr → Nat → Nat → World → Prop) (h : host_Host_send.B0 h0 out_b out_l out_c dst s_0 s_1 s_2 s_3 s_4 s_5 s_6_b s_6_l s_6_c w R) : host_Host_send.Call h0 out_b out_l out_c dst s_0 s_1 s_2 s_3 s_4 s_5 s_6_b s_6_l s_6_c w R := by
  have hc := calls_of_block (args := #[.pointer h0, .slice out_b out_l out_c, .int .i64 dst, .agg #[.int .i64 s_0, .int .i64 s_1, .int .i64 s_2, .int .i64 s_3, .int .i64 s_4, .int .i64 s_5, .slice s_6_b s_6_l s_6_c]]) Tryz.func121 (body := (Tryz.f121.body.getD .skip)) (by kernel_rfl) (by kernel_rfl) (args_slot _) (host_Host_send.B0_sound h0 out_b out_l out_c dst s_0 s_1 s_2 s_3 s_4 s_5 s_6_b s_6_l s_6_c w h)
  exact hc.mono fun e w' he => by
    obtain ⟨v, rfl, hv⟩ := he
    exact host_Host_send.RV_elim hv
def hostm_FirstFragment.B0 (raw_b : Option Addr) (raw_l raw_c : Nat) (w : World)   (R : Bool → World → Prop) : Prop :=
  Bm (decide (((raw_l : Nat) : Int) > (9 : Int))) (
    Pn raw_b fun a =>
    (0 ≤ (9 : Int) ∧ (9 : Int) < ((raw_l : Nat) : Int)) ∧
    LdI .u8 (a.add 9) w fun x9 =>
    R ((IntKind.u8.wrap (BitVec.ofInt IntKind.u8.bits x9 &&& BitVec.ofInt IntKind.u8.bits (127 : Int)).toNat) == (0 : Int)) w) (
    R false w)
theorem hostm_FirstFragment.B0_eq (raw_b : Option Addr) (raw_l raw_c : Nat) (w : World)   (R : Bool → World → Prop)  :
    (
  Bm (decide (((raw_l : Nat) : Int) > (9 : Int))) (
    Pn raw_b fun a =>
    (0 ≤ (9 : Int) ∧ (9 : Int) < ((raw_l : Nat) : Int)) ∧
    LdI .u8 (a.add 9) w fun x9 =>
    R ((IntKind.u8.wrap (BitVec.ofInt IntKind.u8.bits x9 &&& BitVec.ofInt IntKind.u8.bits (127 : Int)).toNat) == (0 : Int)) w) (
    R false w)) = kstep Tryz.prog 13 Tryz.f122.results.toList (Tryz.f122.body.getD .skip) (hostm_FirstFragment.RV R) (kvc Tryz.prog 13 Tryz.f122.results.toList (Tryz.f122.body.getD .skip) (hostm_FirstFragment.RV R) [] 2000) [(0, [])] [(0, .slice raw_b raw_l raw_c)] w := by kernel_rfl
theorem hostm_FirstFragment.B0_sound {R : Bool → World → Prop}  (raw_b : Option Addr) (raw_l raw_c : Nat) (w : World) (h : hostm_FirstFragment.B0 raw_b raw_l raw_c w   R) :
    KW Tryz.prog 122 13 (hostm_FirstFragment.RV R) ([(0, [])].map (toItem (Tryz.f122.body.getD .skip))) [(0, .slice raw_b raw_l raw_c)] w := by
  exact block_spec Tryz.func122 Tryz.mixed stops_nil (Eq.mp (hostm_FirstFragment.B0_eq raw_b raw_l raw_c w   R ) h)
theorem hostm_FirstFragment.sound (raw_b : Option Addr) (raw_l raw_c : Nat) (w : World) (R : Bool → World → Prop) (h : hostm_FirstFragment.B0 raw_b raw_l raw_c w R) : hostm_FirstFragment.Call raw_b raw_l raw_c w R := by
  have hc := calls_of_block (args := #[.slice raw_b raw_l raw_c]) Tryz.func122 (body := (Tryz.f122.body.getD .skip)) (by kernel_rfl) (by kernel_rfl) (args_slot _) (hostm_FirstFragment.B0_sound raw_b raw_l raw_c w h)
  exact hc.mono fun e w' he => by
    obtain ⟨v, rfl, hv⟩ := he
    exact hostm_FirstFragment.RV_elim hv
def wirem_Wire_Put.B0 (w0 raw_b : Option Addr) (raw_l raw_c : Nat) (w : World)   (R : Bool → World → Prop) : Prop :=
  Pn w0 fun a =>
  LdL a w fun x8_b x8_l x8_c =>
  Bm (decide (((x8_l : Nat) : Int) ≥ (64 : Int))) (
    R false w) (
    Pn w0 fun a_1 =>
    LdL a_1 w.drew fun x15_b x15_l x15_c =>
    api_CopyBytes.Call raw_b raw_l raw_c w.drew fun r17_b r17_l r17_c w1 =>
    w1.cell? a_1 = some (.slice x15_b x15_l x15_c) ∧
    New (.cells #[.slice r17_b r17_l r17_c, .int .i64 (0 : Int), .bool false] 129) w1 fun b19 w2 =>
    w2.cell? a_1 = some (.slice x15_b x15_l x15_c) ∧
    Append 129 (.agg #[.slice none 0 0, .int .i64 (0 : Int), .bool false]) 3 40 x15_b x15_l x15_c (some ⟨b19, 0, none⟩) 1 w2 fun b20 c20 w3 =>
    Pn w0 fun a_2 =>
    Sts [.slice b20 (x15_l + 1) c20] a_2 0 w3 fun w4 =>
    R true w4)
theorem wirem_Wire_Put.B0_eq (w0 raw_b : Option Addr) (raw_l raw_c : Nat) (w : World)   (R : Bool → World → Prop)  :
    (
  Pn w0 fun a =>
  LdL a w fun x8_b x8_l x8_c =>
  Bm (decide (((x8_l : Nat) : Int) ≥ (64 : Int))) (
    R false w) (
    Pn w0 fun a_1 =>
    LdL a_1 w.drew fun x15_b x15_l x15_c =>
    api_CopyBytes.Call raw_b raw_l raw_c w.drew fun r17_b r17_l r17_c w1 =>
    w1.cell? a_1 = some (.slice x15_b x15_l x15_c) ∧
    New (.cells #[.slice r17_b r17_l r17_c, .int .i64 (0 : Int), .bool false] 129) w1 fun b19 w2 =>
    w2.cell? a_1 = some (.slice x15_b x15_l x15_c) ∧
    Append 129 (.agg #[.slice none 0 0, .int .i64 (0 : Int), .bool false]) 3 40 x15_b x15_l x15_c (some ⟨b19, 0, none⟩) 1 w2 fun b20 c20 w3 =>
    Pn w0 fun a_2 =>
    Sts [.slice b20 (x15_l + 1) c20] a_2 0 w3 fun w4 =>
    R true w4)) = kstep Tryz.prog 23 Tryz.f123.results.toList (Tryz.f123.body.getD .skip) (wirem_Wire_Put.RV R) (kvc Tryz.prog 23 Tryz.f123.results.toList (Tryz.f123.body.getD .skip) (wirem_Wire_Put.RV R) [] 2000) [(0, [])] [(0, .pointer w0), (1, .slice raw_b raw_l raw_c)] w := by kernel_rfl
theorem wirem_Wire_Put.B0_sound {R : Bool → World → Prop}  (w0 raw_b : Option Addr) (raw_l raw_c : Nat) (w : World) (h : wirem_Wire_Put.B0 w0 raw_b raw_l raw_c w   R) :
    KW Tryz.prog 123 23 (wirem_Wire_Put.RV R) ([(0, [])].map (toItem (Tryz.f123.body.getD .skip))) [(0, .pointer w0), (1, .slice raw_b raw_l raw_c)] w := by
  exact block_spec Tryz.func123 Tryz.mixed stops_nil (Eq.mp (wirem_Wire_Put.B0_eq w0 raw_b raw_l raw_c w   R ) h)
theorem wirem_Wire_Put.sound (w0 raw_b : Option Addr) (raw_l raw_c : Nat) (w : World) (R : Bool → World → Prop) (h : wirem_Wire_Put.B0 w0 raw_b raw_l raw_c w R) : wirem_Wire_Put.Call w0 raw_b raw_l raw_c w R := by
  have hc := calls_of_block (args := #[.pointer w0, .slice raw_b raw_l raw_c]) Tryz.func123 (body := (Tryz.f123.body.getD .skip)) (by kernel_rfl) (by kernel_rfl) (args_slot _) (wirem_Wire_Put.B0_sound w0 raw_b raw_l raw_c w h)
  exact hc.mono fun e w' he => by
    obtain ⟨v, rfl, hv⟩ := he
    exact wirem_Wire_Put.RV_elim hv
def ip_IP_Tick.B1 (p : Option Addr) (i : Int) (w : World) (N1 : Option Addr → Int → World → Prop)  (R : World → Prop) : Prop :=
  N1 p (IntKind.i64.wrap (i + (1 : Int))) w
theorem ip_IP_Tick.B1_eq (p : Option Addr) (i : Int) (w : World) (N1 : Option Addr → Int → World → Prop)  (R : World → Prop)  :
    (
  N1 p (IntKind.i64.wrap (i + (1 : Int))) w) = kstep Tryz.prog 43 Tryz.f124.results.toList (Tryz.f124.body.getD .skip) (ip_IP_Tick.RV R) (kvc Tryz.prog 43 Tryz.f124.results.toList (Tryz.f124.body.getD .skip) (ip_IP_Tick.RV R) [([(0, [1, 1, 0, 0]), (2, [1, 1, 0, 0]), (1, [0])], fun σ w => dP (slotOf σ 0) fun p_ => dI .i64 (slotOf σ 2) fun i_ => N1 p_ i_ w)] 2000) [(0, [1, 1, 0, 0, 1, 1]), (2, [1, 1, 0, 0]), (1, [0])] [(0, .pointer p), (2, .int .i64 i)] w := by kernel_rfl
theorem ip_IP_Tick.B1_sound {R : World → Prop} {N1 : Option Addr → Int → World → Prop} (hN1 : ∀ p i w, N1 p i w → KW Tryz.prog 124 43 (ip_IP_Tick.RV R) ([(0, [1, 1, 0, 0]), (2, [1, 1, 0, 0]), (1, [0])].map (toItem (Tryz.f124.body.getD .skip))) [(0, .pointer p), (2, .int .i64 i)] w) (p : Option Addr) (i : Int) (w : World) (h : ip_IP_Tick.B1 p i w N1  R) :
    KW Tryz.prog 124 43 (ip_IP_Tick.RV R) ([(0, [1, 1, 0, 0, 1, 1]), (2, [1, 1, 0, 0]), (1, [0])].map (toItem (Tryz.f124.body.getD .skip))) [(0, .pointer p), (2, .int .i64 i)] w := by
  exact block_spec Tryz.func124 Tryz.mixed (stops_cons (fun σ w h => by
      obtain ⟨p_, e0, h⟩ := dP_elim h
      obtain ⟨i_, e1, h⟩ := dI_elim h
      exact (hN1 p_ i_ w h).weaken (Sub.cons (Sub.cons (Sub.nil _) e1) e0)) stops_nil) (Eq.mp (ip_IP_Tick.B1_eq p i w N1  R ) h)
def ip_IP_Tick.L1b (p : Option Addr) (i : Int) (w : World)  (N1 : Option Addr → Int → World → Prop) (R : World → Prop) : Prop :=
  Bm (decide (i < (3 : Int))) (
    Pn p fun a =>
    (0 ≤ i ∧ i < ((3 : Nat) : Int)) ∧
    LdB (Addr.add (a.add 3) (i.toNat * 45)) w fun x16 =>
    Bm x16 (
      Pn p fun a_1 =>
      (0 ≤ i ∧ i < ((3 : Nat) : Int)) ∧
      LdI .i64 ((Addr.add (a_1.add 3) (i.toNat * 45)).add 2) w.drew fun x23 =>
      Pn p fun a_2 =>
      (0 ≤ i ∧ i < ((3 : Nat) : Int)) ∧
      Sts [.int .i64 (IntKind.i64.wrap (x23 - (1 : Int)))] ((Addr.add (a_2.add 3) (i.toNat * 45)).add 2) 0 w.drew fun w1 =>
      Pn p fun a_3 =>
      (0 ≤ i ∧ i < ((3 : Nat) : Int)) ∧
      LdI .i64 ((Addr.add (a_3.add 3) (i.toNat * 45)).add 2) w1 fun x35 =>
      Bm (decide (x35 ≤ (0 : Int))) (
        Pn p fun a_4 =>
        (0 ≤ i ∧ i < ((3 : Nat) : Int)) ∧
        Sts [.bool false] (Addr.add (a_4.add 3) (i.toNat * 45)) 0 w1 fun w2 =>
        ip_IP_Tick.B1 p i w2 N1 R) (
        ip_IP_Tick.B1 p i w1 N1 R)) (
      ip_IP_Tick.B1 p i w N1 R)) (
    R  w)
theorem ip_IP_Tick.L1b_eq (p : Option Addr) (i : Int) (w : World)  (N1 : Option Addr → Int → World → Prop) (R : World → Prop) (sB1 : Option Addr → Int → World → Prop) :
    (
  Bm (decide (i < (3 : Int))) (
    Pn p fun a =>
    (0 ≤ i ∧ i < ((3 : Nat) : Int)) ∧
    LdB (Addr.add (a.add 3) (i.toNat * 45)) w fun x16 =>
    Bm x16 (
      Pn p fun a_1 =>
      (0 ≤ i ∧ i < ((3 : Nat) : Int)) ∧
      LdI .i64 ((Addr.add (a_1.add 3) (i.toNat * 45)).add 2) w.drew fun x23 =>
      Pn p fun a_2 =>
      (0 ≤ i ∧ i < ((3 : Nat) : Int)) ∧
      Sts [.int .i64 (IntKind.i64.wrap (x23 - (1 : Int)))] ((Addr.add (a_2.add 3) (i.toNat * 45)).add 2) 0 w.drew fun w1 =>
      Pn p fun a_3 =>
      (0 ≤ i ∧ i < ((3 : Nat) : Int)) ∧
      LdI .i64 ((Addr.add (a_3.add 3) (i.toNat * 45)).add 2) w1 fun x35 =>
      Bm (decide (x35 ≤ (0 : Int))) (
        Pn p fun a_4 =>
        (0 ≤ i ∧ i < ((3 : Nat) : Int)) ∧
        Sts [.bool false] (Addr.add (a_4.add 3) (i.toNat * 45)) 0 w1 fun w2 =>
        sB1 p i w2) (
        sB1 p i w1)) (
      sB1 p i w)) (
    R  w)) = kstep Tryz.prog 43 Tryz.f124.results.toList (Tryz.f124.body.getD .skip) (ip_IP_Tick.RV R) (kvc Tryz.prog 43 Tryz.f124.results.toList (Tryz.f124.body.getD .skip) (ip_IP_Tick.RV R) [([(0, [1, 1, 0, 0, 1, 1]), (2, [1, 1, 0, 0]), (1, [0])], fun σ w => dP (slotOf σ 0) fun p_ => dI .i64 (slotOf σ 2) fun i_ => sB1 p_ i_ w)] 2000) [(0, [1, 1, 0, 0]), (2, [1, 1, 0, 0]), (1, [0])] [(0, .pointer p), (2, .int .i64 i)] w := by kernel_rfl
theorem ip_IP_Tick.L1b_sound {R : World → Prop} {N1 : Option Addr → Int → World → Prop} (hN1 : ∀ p i w, N1 p i w → KW Tryz.prog 124 43 (ip_IP_Tick.RV R) ([(0, [1, 1, 0, 0]), (2, [1, 1, 0, 0]), (1, [0])].map (toItem (Tryz.f124.body.getD .skip))) [(0, .pointer p), (2, .int .i64 i)] w) (p : Option Addr) (i : Int) (w : World) (h : ip_IP_Tick.L1b p i w  N1 R) :
    KW Tryz.prog 124 43 (ip_IP_Tick.RV R) ([(0, [1, 1, 0, 0]), (2, [1, 1, 0, 0]), (1, [0])].map (toItem (Tryz.f124.body.getD .skip))) [(0, .pointer p), (2, .int .i64 i)] w := by
  exact block_spec Tryz.func124 Tryz.mixed (stops_cons (fun σ w h => by
      obtain ⟨p_, e0, h⟩ := dP_elim h
      obtain ⟨i_, e1, h⟩ := dI_elim h
      exact (ip_IP_Tick.B1_sound hN1 p_ i_ w h).weaken (Sub.cons (Sub.cons (Sub.nil _) e1) e0)) stops_nil) (Eq.mp (ip_IP_Tick.L1b_eq p i w  N1 R (fun p_ i_ w => ip_IP_Tick.B1 p_ i_ w N1 R)) h)
def ip_IP_Tick.L1 (p : Option Addr) (i : Int) (w : World)  (R : World → Prop) : Prop :=
  ∃ (I : Nat → Option Addr → Int → World → Prop) (m : Nat), I m p i w ∧ ∀ m p i w, I m p i w → ip_IP_Tick.L1b p i w  (fun p' i' w' => ∃ m', m' < m ∧ I m' p' i' w') R
theorem ip_IP_Tick.L1_sound {R : World → Prop}  (p : Option Addr) (i : Int) (w : World) (h : ip_IP_Tick.L1 p i w  R) :
    KW Tryz.prog 124 43 (ip_IP_Tick.RV R) ([(0, [1, 1, 0, 0]), (2, [1, 1, 0, 0]), (1, [0])].map (toItem (Tryz.f124.body.getD .skip))) [(0, .pointer p), (2, .int .i64 i)] w := by
  obtain ⟨I, m, hBase, hr⟩ := h
  refine KW.loop (fun m σ w => ∃ (p : Option Addr) (i : Int), σ = [(0, .pointer p), (2, .int .i64 i)] ∧ I m p i w) ?_ m _ w ⟨p, i, rfl, hBase⟩
  rintro m ih σ w ⟨p, i, rfl, hI⟩
  exact ip_IP_Tick.L1b_sound  (N1 := fun p' i' w' => ∃ m', m' < m ∧ I m' p' i' w') (fun p' i' w' hx => by obtain ⟨m', hlt, hI'⟩ := hx; exact ih m' hlt _ w' ⟨p', i', rfl, hI'⟩) p i w (hr m p i w hI)
def ip_IP_Tick.B0 (p : Option Addr) (w : World)   (R : World → Prop) : Prop :=
  Pn p fun a =>
  Sts [.int .i64 (24 : Int)] (a.add 2) 0 w fun w1 =>
  ip_IP_Tick.L1 p (0 : Int) w1  R
theorem ip_IP_Tick.B0_eq (p : Option Addr) (w : World)   (R : World → Prop) (sL1 : Option Addr → Int → World → Prop) :
    (
  Pn p fun a =>
  Sts [.int .i64 (24 : Int)] (a.add 2) 0 w fun w1 =>
  sL1 p (0 : Int) w1) = kstep Tryz.prog 43 Tryz.f124.results.toList (Tryz.f124.body.getD .skip) (ip_IP_Tick.RV R) (kvc Tryz.prog 43 Tryz.f124.results.toList (Tryz.f124.body.getD .skip) (ip_IP_Tick.RV R) [([(0, [1, 1, 0, 0]), (2, [1, 1, 0, 0]), (1, [0])], fun σ w => dP (slotOf σ 0) fun p_ => dI .i64 (slotOf σ 2) fun i_ => sL1 p_ i_ w)] 2000) [(0, [])] [(0, .pointer p)] w := by kernel_rfl
theorem ip_IP_Tick.B0_sound {R : World → Prop}  (p : Option Addr) (w : World) (h : ip_IP_Tick.B0 p w   R) :
    KW Tryz.prog 124 43 (ip_IP_Tick.RV R) ([(0, [])].map (toItem (Tryz.f124.body.getD .skip))) [(0, .pointer p)] w := by
  exact block_spec Tryz.func124 Tryz.mixed (stops_cons (fun σ w h => by
      obtain ⟨p_, e0, h⟩ := dP_elim h
      obtain ⟨i_, e1, h⟩ := dI_elim h
      exact (ip_IP_Tick.L1_sound  p_ i_ w h).weaken (Sub.cons (Sub.cons (Sub.nil _) e1) e0)) stops_nil) (Eq.mp (ip_IP_Tick.B0_eq p w   R (fun p_ i_ w => ip_IP_Tick.L1 p_ i_ w  R)) h)
theorem ip_IP_Tick.sound (p : Option Addr) (w : World) (R : World → Prop) (h : ip_IP_Tick.B0 p w R) : ip_IP_Tick.Call p w R := by
  have hc := calls_of_block (args := #[.pointer p]) Tryz.func124 (body := (Tryz.f124.body.getD .skip)) (by kernel_rfl) (by kernel_rfl) (args_slot _) (ip_IP_Tick.B0_sound p w h)
  exact hc.mono fun e w' he => by
    obtain ⟨v, rfl, hv⟩ := he
    exact ip_IP_Tick.RV_elim hv
def conn_Conn_Tick.B1 (c out_b : Option Addr) (out_l out_c : Nat) (w : World)   (R : Option Addr → Nat → Nat → World → Prop) : Prop :=
  Pn c fun a =>
  LdI .i64 (a.add 13) w fun x33 =>
  Bm (x33 == (0 : Int)) (
    Pn c fun a_1 =>
    LdP (a_1.add 1) w fun x38 =>
    seg_RecvBuf_Avail.Call x38 w fun r39 w1 =>
    Bm (r39 == (0 : Int)) (
      conn_Conn_wipe.Call c w1 fun w2 =>
      R out_b out_l out_c w2) (
      R out_b out_l out_c w1)) (
    R out_b out_l out_c w)
theorem conn_Conn_Tick.B1_eq (c out_b : Option Addr) (out_l out_c : Nat) (w : World)   (R : Option Addr → Nat → Nat → World → Prop)  :
    (
  Pn c fun a =>
  LdI .i64 (a.add 13) w fun x33 =>
  Bm (x33 == (0 : Int)) (
    Pn c fun a_1 =>
    LdP (a_1.add 1) w fun x38 =>
    seg_RecvBuf_Avail.Call x38 w fun r39 w1 =>
    Bm (r39 == (0 : Int)) (
      conn_Conn_wipe.Call c w1 fun w2 =>
      R out_b out_l out_c w2) (
      R out_b out_l out_c w1)) (
    R out_b out_l out_c w)) = kstep Tryz.prog 92 Tryz.f125.results.toList (Tryz.f125.body.getD .skip) (conn_Conn_Tick.RV R) (kvc Tryz.prog 92 Tryz.f125.results.toList (Tryz.f125.body.getD .skip) (conn_Conn_Tick.RV R) [] 2000) [(0, [1, 1, 1, 0, 1, 0, 1]), (0, [1, 1, 1, 1])] [(0, .pointer c), (3, .slice out_b out_l out_c)] w := by kernel_rfl
theorem conn_Conn_Tick.B1_sound {R : Option Addr → Nat → Nat → World → Prop}  (c out_b : Option Addr) (out_l out_c : Nat) (w : World) (h : conn_Conn_Tick.B1 c out_b out_l out_c w   R) :
    KW Tryz.prog 125 92 (conn_Conn_Tick.RV R) ([(0, [1, 1, 1, 0, 1, 0, 1]), (0, [1, 1, 1, 1])].map (toItem (Tryz.f125.body.getD .skip))) [(0, .pointer c), (3, .slice out_b out_l out_c)] w := by
  exact block_spec Tryz.func125 Tryz.mixed stops_nil (Eq.mp (conn_Conn_Tick.B1_eq c out_b out_l out_c w   R ) h)
def conn_Conn_Tick.B2 (c out_b : Option Addr) (out_l out_c : Nat) (w : World)   (R : Option Addr → Nat → Nat → World → Prop) : Prop :=
  conn_Conn_pump.Call c w fun r88_b r88_l r88_c w1 =>
  Append 177 (.agg #[.int .i64 (0 : Int), .int .i64 (0 : Int), .int .i64 (0 : Int), .int .i64 (0 : Int), .int .i64 (0 : Int), .int .i64 (0 : Int), .slice none 0 0]) 7 72 out_b out_l out_c r88_b r88_l w1 fun b91 c91 w2 =>
  R b91 (out_l + r88_l) c91 w2
theorem conn_Conn_Tick.B2_eq (c out_b : Option Addr) (out_l out_c : Nat) (w : World)   (R : Option Addr → Nat → Nat → World → Prop)  :
    (
  conn_Conn_pump.Call c w fun r88_b r88_l r88_c w1 =>
  Append 177 (.agg #[.int .i64 (0 : Int), .int .i64 (0 : Int), .int .i64 (0 : Int), .int .i64 (0 : Int), .int .i64 (0 : Int), .int .i64 (0 : Int), .slice none 0 0]) 7 72 out_b out_l out_c r88_b r88_l w1 fun b91 c91 w2 =>
  R b91 (out_l + r88_l) c91 w2) = kstep Tryz.prog 92 Tryz.f125.results.toList (Tryz.f125.body.getD .skip) (conn_Conn_Tick.RV R) (kvc Tryz.prog 92 Tryz.f125.results.toList (Tryz.f125.body.getD .skip) (conn_Conn_Tick.RV R) [] 2000) [(0, [1, 1, 1, 1, 1, 1])] [(0, .pointer c), (3, .slice out_b out_l out_c)] w := by kernel_rfl
theorem conn_Conn_Tick.B2_sound {R : Option Addr → Nat → Nat → World → Prop}  (c out_b : Option Addr) (out_l out_c : Nat) (w : World) (h : conn_Conn_Tick.B2 c out_b out_l out_c w   R) :
    KW Tryz.prog 125 92 (conn_Conn_Tick.RV R) ([(0, [1, 1, 1, 1, 1, 1])].map (toItem (Tryz.f125.body.getD .skip))) [(0, .pointer c), (3, .slice out_b out_l out_c)] w := by
  exact block_spec Tryz.func125 Tryz.mixed stops_nil (Eq.mp (conn_Conn_Tick.B2_eq c out_b out_l out_c w   R ) h)
def conn_Conn_Tick.B0 (c : Option Addr) (w : World)   (R : Option Addr → Nat → Nat → World → Prop) : Prop :=
  New (.cells #[] 177) w fun b6 w1 =>
  Pn c fun a =>
  LdI .i64 (a.add 2) w1 fun x10 =>
  Bm (x10 == (0 : Int)) (
    R (some ⟨b6, 0, none⟩) 0 0 w1) (
    Pn c fun a_1 =>
    LdI .i64 (a_1.add 2) w1 fun x16 =>
    Bm (x16 == (4 : Int)) (
      Pn c fun a_2 =>
      LdI .i64 (a_2.add 13) w1 fun x21 =>
      Bm (decide (x21 > (0 : Int))) (
        Pn c fun a_3 =>
        LdI .i64 (a_3.add 13) w1 fun x26 =>
        Pn c fun a_4 =>
        Sts [.int .i64 (IntKind.i64.wrap (x26 - (1 : Int)))] (a_4.add 13) 0 w1 fun w2 =>
        conn_Conn_Tick.B1 c (some ⟨b6, 0, none⟩) 0 0 w2  R) (
        conn_Conn_Tick.B1 c (some ⟨b6, 0, none⟩) 0 0 w1  R)) (
      Pn c fun a_5 =>
      Sts [.int .i64 (12 : Int)] (a_5.add 12) 0 w1 fun w3 =>
      Pn c fun a_6 =>
      LdI .i64 (a_6.add 10) w3 fun x50 =>
      Bm (decide (x50 > (0 : Int))) (
        Pn c fun a_7 =>
        LdI .i64 (a_7.add 10) w3 fun x55 =>
        Pn c fun a_8 =>
        Sts [.int .i64 (IntKind.i64.wrap (x55 - (1 : Int)))] (a_8.add 10) 0 w3 fun w4 =>
        Pn c fun a_9 =>
        LdI .i64 (a_9.add 10) w4 fun x62 =>
        Bm (x62 == (0 : Int)) (
          Pn c fun a_10 =>
          LdI .i64 (a_10.add 11) w4 fun x67 =>
          Bm (x67 == (3 : Int)) (
            conn_Conn_fail.Call c (19 : Int) w4 fun w5 =>
            R (some ⟨b6, 0, none⟩) 0 0 w5) (
            Pn c fun a_11 =>
            LdI .i64 (a_11.add 11) w4 fun x75 =>
            Pn c fun a_12 =>
            Sts [.int .i64 (IntKind.i64.wrap (x75 + (1 : Int)))] (a_12.add 11) 0 w4 fun w6 =>
            conn_Conn_arm.Call c w6 fun w7 =>
            conn_Conn_again.Call c w7 fun r82_0 r82_1 r82_2 r82_3 r82_4 r82_5 r82_6_b r82_6_l r82_6_c w8 =>
            New (.cells #[.int .i64 (0 : Int), .int .i64 (0 : Int), .int .i64 (0 : Int), .int .i64 (0 : Int), .int .i64 (0 : Int), .int .i64 (0 : Int), .slice none 0 0] 177) w8 fun s_ w9 =>
            Sts [.int .i64 r82_0, .int .i64 r82_1, .int .i64 r82_2, .int .i64 r82_3, .int .i64 r82_4, .int .i64 r82_5, .slice r82_6_b r82_6_l r82_6_c] ⟨s_, 0, none⟩ 0 w9 fun w10 =>
            LdI .i64 ⟨s_, 0, none⟩ w10 fun x84_0 =>
            LdI .i64 ⟨s_, 1, none⟩ w10 fun x84_1 =>
            LdI .i64 ⟨s_, 2, none⟩ w10 fun x84_2 =>
            LdI .i64 ⟨s_, 3, none⟩ w10 fun x84_3 =>
            LdI .i64 ⟨s_, 4, none⟩ w10 fun x84_4 =>
            LdI .i64 ⟨s_, 5, none⟩ w10 fun x84_5 =>
            LdL ⟨s_, 6, none⟩ w10 fun x84_6_b x84_6_l x84_6_c =>
            New (.cells #[.int .i64 x84_0, .int .i64 x84_1, .int .i64 x84_2, .int .i64 x84_3, .int .i64 x84_4, .int .i64 x84_5, .slice x84_6_b x84_6_l x84_6_c] 177) w10 fun b85 w11 =>
            Append 177 (.agg #[.int .i64 (0 : Int), .int .i64 (0 : Int), .int .i64 (0 : Int), .int .i64 (0 : Int), .int .i64 (0 : Int), .int .i64 (0 : Int), .slice none 0 0]) 7 72 (some ⟨b6, 0, none⟩) 0 0 (some ⟨b85, 0, none⟩) 1 w11 fun b86 c86 w12 =>
            conn_Conn_Tick.B2 c b86 (0 + 1) c86 w12  R)) (
          conn_Conn_Tick.B2 c (some ⟨b6, 0, none⟩) 0 0 w4  R)) (
        conn_Conn_Tick.B2 c (some ⟨b6, 0, none⟩) 0 0 w3  R)))
theorem conn_Conn_Tick.B0_eq (c : Option Addr) (w : World)   (R : Option Addr → Nat → Nat → World → Prop) (sB1 : Option Addr → Option Addr → Nat → Nat → World → Prop) (sB2 : Option Addr → Option Addr → Nat → Nat → World → Prop) :
    (
  New (.cells #[] 177) w fun b6 w1 =>
  Pn c fun a =>
  LdI .i64 (a.add 2) w1 fun x10 =>
  Bm (x10 == (0 : Int)) (
    R (some ⟨b6, 0, none⟩) 0 0 w1) (
    Pn c fun a_1 =>
    LdI .i64 (a_1.add 2) w1 fun x16 =>
    Bm (x16 == (4 : Int)) (
      Pn c fun a_2 =>
      LdI .i64 (a_2.add 13) w1 fun x21 =>
      Bm (decide (x21 > (0 : Int))) (
        Pn c fun a_3 =>
        LdI .i64 (a_3.add 13) w1 fun x26 =>
        Pn c fun a_4 =>
        Sts [.int .i64 (IntKind.i64.wrap (x26 - (1 : Int)))] (a_4.add 13) 0 w1 fun w2 =>
        sB1 c (some ⟨b6, 0, none⟩) 0 0 w2) (
        sB1 c (some ⟨b6, 0, none⟩) 0 0 w1)) (
      Pn c fun a_5 =>
      Sts [.int .i64 (12 : Int)] (a_5.add 12) 0 w1 fun w3 =>
      Pn c fun a_6 =>
      LdI .i64 (a_6.add 10) w3 fun x50 =>
      Bm (decide (x50 > (0 : Int))) (
        Pn c fun a_7 =>
        LdI .i64 (a_7.add 10) w3 fun x55 =>
        Pn c fun a_8 =>
        Sts [.int .i64 (IntKind.i64.wrap (x55 - (1 : Int)))] (a_8.add 10) 0 w3 fun w4 =>
        Pn c fun a_9 =>
        LdI .i64 (a_9.add 10) w4 fun x62 =>
        Bm (x62 == (0 : Int)) (
          Pn c fun a_10 =>
          LdI .i64 (a_10.add 11) w4 fun x67 =>
          Bm (x67 == (3 : Int)) (
            conn_Conn_fail.Call c (19 : Int) w4 fun w5 =>
            R (some ⟨b6, 0, none⟩) 0 0 w5) (
            Pn c fun a_11 =>
            LdI .i64 (a_11.add 11) w4 fun x75 =>
            Pn c fun a_12 =>
            Sts [.int .i64 (IntKind.i64.wrap (x75 + (1 : Int)))] (a_12.add 11) 0 w4 fun w6 =>
            conn_Conn_arm.Call c w6 fun w7 =>
            conn_Conn_again.Call c w7 fun r82_0 r82_1 r82_2 r82_3 r82_4 r82_5 r82_6_b r82_6_l r82_6_c w8 =>
            New (.cells #[.int .i64 (0 : Int), .int .i64 (0 : Int), .int .i64 (0 : Int), .int .i64 (0 : Int), .int .i64 (0 : Int), .int .i64 (0 : Int), .slice none 0 0] 177) w8 fun s_ w9 =>
            Sts [.int .i64 r82_0, .int .i64 r82_1, .int .i64 r82_2, .int .i64 r82_3, .int .i64 r82_4, .int .i64 r82_5, .slice r82_6_b r82_6_l r82_6_c] ⟨s_, 0, none⟩ 0 w9 fun w10 =>
            LdI .i64 ⟨s_, 0, none⟩ w10 fun x84_0 =>
            LdI .i64 ⟨s_, 1, none⟩ w10 fun x84_1 =>
            LdI .i64 ⟨s_, 2, none⟩ w10 fun x84_2 =>
            LdI .i64 ⟨s_, 3, none⟩ w10 fun x84_3 =>
            LdI .i64 ⟨s_, 4, none⟩ w10 fun x84_4 =>
            LdI .i64 ⟨s_, 5, none⟩ w10 fun x84_5 =>
            LdL ⟨s_, 6, none⟩ w10 fun x84_6_b x84_6_l x84_6_c =>
            New (.cells #[.int .i64 x84_0, .int .i64 x84_1, .int .i64 x84_2, .int .i64 x84_3, .int .i64 x84_4, .int .i64 x84_5, .slice x84_6_b x84_6_l x84_6_c] 177) w10 fun b85 w11 =>
            Append 177 (.agg #[.int .i64 (0 : Int), .int .i64 (0 : Int), .int .i64 (0 : Int), .int .i64 (0 : Int), .int .i64 (0 : Int), .int .i64 (0 : Int), .slice none 0 0]) 7 72 (some ⟨b6, 0, none⟩) 0 0 (some ⟨b85, 0, none⟩) 1 w11 fun b86 c86 w12 =>
            sB2 c b86 (0 + 1) c86 w12)) (
          sB2 c (some ⟨b6, 0, none⟩) 0 0 w4)) (
        sB2 c (some ⟨b6, 0, none⟩) 0 0 w3)))) = kstep Tryz.prog 92 Tryz.f125.results.toList (Tryz.f125.body.getD .skip) (conn_Conn_Tick.RV R) (kvc Tryz.prog 92 Tryz.f125.results.toList (Tryz.f125.body.getD .skip) (conn_Conn_Tick.RV R) [([(0, [1, 1, 1, 0, 1, 0, 1]), (0, [1, 1, 1, 1])], fun σ w => dP (slotOf σ 0) fun c_ => dL (slotOf σ 3) fun out_b_ out_l_ out_c_ => sB1 c_ out_b_ out_l_ out_c_ w),
    ([(0, [1, 1, 1, 1, 1, 1])], fun σ w => dP (slotOf σ 0) fun c_ => dL (slotOf σ 3) fun out_b_ out_l_ out_c_ => sB2 c_ out_b_ out_l_ out_c_ w)] 2000) [(0, [])] [(0, .pointer c)] w := by kernel_rfl
theorem conn_Conn_Tick.B0_sound {R : Option Addr → Nat → Nat → World → Prop}  (c : Option Addr) (w : World) (h : conn_Conn_Tick.B0 c w   R) :
    KW Tryz.prog 125 92 (conn_Conn_Tick.RV R) ([(0, [])].map (toItem (Tryz.f125.body.getD .skip))) [(0, .pointer c)] w := by
  exact block_spec Tryz.func125 Tryz.mixed (stops_cons (fun σ w h => by
      obtain ⟨c_, e0, h⟩ := dP_elim h
      obtain ⟨out_b_, out_l_, out_c_, e1, h⟩ := dL_elim h
      exact (conn_Conn_Tick.B1_sound  c_ out_b_ out_l_ out_c_ w h).weaken (Sub.cons (Sub.cons (Sub.nil _) e1) e0)) (stops_cons (fun σ w h => by
      obtain ⟨c_, e0, h⟩ := dP_elim h
      obtain ⟨out_b_, out_l_, out_c_, e1, h⟩ := dL_elim h
      exact (conn_Conn_Tick.B2_sound  c_ out_b_ out_l_ out_c_ w h).weaken (Sub.cons (Sub.cons (Sub.nil _) e1) e0)) stops_nil)) (Eq.mp (conn_Conn_Tick.B0_eq c w   R (fun c_ out_b_ out_l_ out_c_ w => conn_Conn_Tick.B1 c_ out_b_ out_l_ out_c_ w  R) (fun c_ out_b_ out_l_ out_c_ w => conn_Conn_Tick.B2 c_ out_b_ out_l_ out_c_ w  R)) h)
theorem conn_Conn_Tick.sound (c : Option Addr) (w : World) (R : Option Addr → Nat → Nat → World → Prop) (h : conn_Conn_Tick.B0 c w R) : conn_Conn_Tick.Call c w R := by
  have hc := calls_of_block (args := #[.pointer c]) Tryz.func125 (body := (Tryz.f125.body.getD .skip)) (by kernel_rfl) (by kernel_rfl) (args_slot _) (conn_Conn_Tick.B0_sound c w h)
  exact hc.mono fun e w' he => by
    obtain ⟨v, rfl, hv⟩ := he
    exact conn_Conn_Tick.RV_elim hv
def host_Host_emit.L1b (h0 out_b : Option Addr) (out_l out_c : Nat) (segs_b : Option Addr) (segs_l segs_c en : Nat) (i : Int) (w : World)  (N1 : Option Addr → Option Addr → Nat → Nat → Option Addr → Nat → Nat → Nat → Int → World → Prop) (R : Option Addr → Nat → Nat → World → Prop) : Prop :=
  Bm (decide (i < ((segs_l : Nat) : Int))) (
    Pn segs_b fun a =>
    (0 ≤ i ∧ i < ((segs_l : Nat) : Int)) ∧
    LdI .i64 (Addr.add a (i.toNat * 7)) w fun x20_0 =>
    LdI .i64 ((Addr.add a (i.toNat * 7)).add 1) w fun x20_1 =>
    LdI .i64 ((Addr.add a (i.toNat * 7)).add 2) w fun x20_2 =>
    LdI .i64 ((Addr.add a (i.toNat * 7)).add 3) w fun x20_3 =>
    LdI .i64 ((Addr.add a (i.toNat * 7)).add 4) w fun x20_4 =>
    LdI .i64 ((Addr.add a (i.toNat * 7)).add 5) w fun x20_5 =>
    LdL ((Addr.add a (i.toNat * 7)).add 6) w fun x20_6_b x20_6_l x20_6_c =>
    New (.cells #[.int .i64 (0 : Int), .int .i64 (0 : Int), .int .i64 (0 : Int), .int .i64 (0 : Int), .int .i64 (0 : Int), .int .i64 (0 : Int), .slice none 0 0] 177) w fun s_ w1 =>
    Sts [.int .i64 x20_0, .int .i64 x20_1, .int .i64 x20_2, .int .i64 x20_3, .int .i64 x20_4, .int .i64 x20_5, .slice x20_6_b x20_6_l x20_6_c] ⟨s_, 0, none⟩ 0 w1 fun w2 =>
    LdI .i64 ⟨en, 2, none⟩ w2 fun x22 =>
    Sts [.int .i64 x22] ⟨s_, 0, none⟩ 0 w2 fun w3 =>
    LdI .i64 ⟨en, 4, none⟩ w3 fun x25 =>
    Sts [.int .i64 x25] ⟨s_, 1, none⟩ 0 w3 fun w4 =>
    LdI .i64 ⟨en, 3, none⟩ w4 fun x30 =>
    LdI .i64 ⟨s_, 0, none⟩ w4 fun x31_0 =>
    LdI .i64 ⟨s_, 1, none⟩ w4 fun x31_1 =>
    LdI .i64 ⟨s_, 2, none⟩ w4 fun x31_2 =>
    LdI .i64 ⟨s_, 3, none⟩ w4 fun x31_3 =>
    LdI .i64 ⟨s_, 4, none⟩ w4 fun x31_4 =>
    LdI .i64 ⟨s_, 5, none⟩ w4 fun x31_5 =>
    LdL ⟨s_, 6, none⟩ w4 fun x31_6_b x31_6_l x31_6_c =>
    host_Host_send.Call h0 out_b out_l out_c x30 x31_0 x31_1 x31_2 x31_3 x31_4 x31_5 x31_6_b x31_6_l x31_6_c w4 fun r32_b r32_l r32_c w5 =>
    N1 h0 r32_b r32_l r32_c segs_b segs_l segs_c en (IntKind.i64.wrap (i + (1 : Int))) w5) (
    R out_b out_l out_c w)
theorem host_Host_emit.L1b_eq (h0 out_b : Option Addr) (out_l out_c : Nat) (segs_b : Option Addr) (segs_l segs_c en : Nat) (i : Int) (w : World)  (N1 : Option Addr → Option Addr → Nat → Nat → Option Addr → Nat → Nat → Nat → Int → World → Prop) (R : Option Addr → Nat → Nat → World → Prop)  :
    (
  Bm (decide (i < ((segs_l : Nat) : Int))) (
    Pn segs_b fun a =>
    (0 ≤ i ∧ i < ((segs_l : Nat) : Int)) ∧
    LdI .i64 (Addr.add a (i.toNat * 7)) w fun x20_0 =>
    LdI .i64 ((Addr.add a (i.toNat * 7)).add 1) w fun x20_1 =>
    LdI .i64 ((Addr.add a (i.toNat * 7)).add 2) w fun x20_2 =>
    LdI .i64 ((Addr.add a (i.toNat * 7)).add 3) w fun x20_3 =>
    LdI .i64 ((Addr.add a (i.toNat * 7)).add 4) w fun x20_4 =>
    LdI .i64 ((Addr.add a (i.toNat * 7)).add 5) w fun x20_5 =>
    LdL ((Addr.add a (i.toNat * 7)).add 6) w fun x20_6_b x20_6_l x20_6_c =>
    New (.cells #[.int .i64 (0 : Int), .int .i64 (0 : Int), .int .i64 (0 : Int), .int .i64 (0 : Int), .int .i64 (0 : Int), .int .i64 (0 : Int), .slice none 0 0] 177) w fun s_ w1 =>
    Sts [.int .i64 x20_0, .int .i64 x20_1, .int .i64 x20_2, .int .i64 x20_3, .int .i64 x20_4, .int .i64 x20_5, .slice x20_6_b x20_6_l x20_6_c] ⟨s_, 0, none⟩ 0 w1 fun w2 =>
    LdI .i64 ⟨en, 2, none⟩ w2 fun x22 =>
    Sts [.int .i64 x22] ⟨s_, 0, none⟩ 0 w2 fun w3 =>
    LdI .i64 ⟨en, 4, none⟩ w3 fun x25 =>
    Sts [.int .i64 x25] ⟨s_, 1, none⟩ 0 w3 fun w4 =>
    LdI .i64 ⟨en, 3, none⟩ w4 fun x30 =>
    LdI .i64 ⟨s_, 0, none⟩ w4 fun x31_0 =>
    LdI .i64 ⟨s_, 1, none⟩ w4 fun x31_1 =>
    LdI .i64 ⟨s_, 2, none⟩ w4 fun x31_2 =>
    LdI .i64 ⟨s_, 3, none⟩ w4 fun x31_3 =>
    LdI .i64 ⟨s_, 4, none⟩ w4 fun x31_4 =>
    LdI .i64 ⟨s_, 5, none⟩ w4 fun x31_5 =>
    LdL ⟨s_, 6, none⟩ w4 fun x31_6_b x31_6_l x31_6_c =>
    host_Host_send.Call h0 out_b out_l out_c x30 x31_0 x31_1 x31_2 x31_3 x31_4 x31_5 x31_6_b x31_6_l x31_6_c w4 fun r32_b r32_l r32_c w5 =>
    N1 h0 r32_b r32_l r32_c segs_b segs_l segs_c en (IntKind.i64.wrap (i + (1 : Int))) w5) (
    R out_b out_l out_c w)) = kstep Tryz.prog 34 Tryz.f126.results.toList (Tryz.f126.body.getD .skip) (host_Host_emit.RV R) (kvc Tryz.prog 34 Tryz.f126.results.toList (Tryz.f126.body.getD .skip) (host_Host_emit.RV R) [([(0, [1, 0, 1, 0, 0]), (2, [1, 0, 1, 0, 0]), (1, [0]), (0, [1, 1])], fun σ w => dP (slotOf σ 0) fun h0_ => dL (slotOf σ 1) fun out_b_ out_l_ out_c_ => dL (slotOf σ 3) fun segs_b_ segs_l_ segs_c_ => dK (slotOf σ 6) fun en_ => dI .i64 (slotOf σ 9) fun i_ => N1 h0_ out_b_ out_l_ out_c_ segs_b_ segs_l_ segs_c_ en_ i_ w)] 2000) [(0, [1, 0, 1, 0, 0]), (2, [1, 0, 1, 0, 0]), (1, [0]), (0, [1, 1])] [(0, .pointer h0), (1, .slice out_b out_l out_c), (3, .slice segs_b segs_l segs_c), (6, .pointer (some ⟨en, 0, none⟩)), (9, .int .i64 i)] w := by kernel_rfl
theorem host_Host_emit.L1b_sound {R : Option Addr → Nat → Nat → World → Prop} {N1 : Option Addr → Option Addr → Nat → Nat → Option Addr → Nat → Nat → Nat → Int → World → Prop} (hN1 : ∀ h0 out_b out_l out_c segs_b segs_l segs_c en i w, N1 h0 out_b out_l out_c segs_b segs_l segs_c en i w → KW Tryz.prog 126 34 (host_Host_emit.RV R) ([(0, [1, 0, 1, 0, 0]), (2, [1, 0, 1, 0, 0]), (1, [0]), (0, [1, 1])].map (toItem (Tryz.f126.body.getD .skip))) [(0, .pointer h0), (1, .slice out_b out_l out_c), (3, .slice segs_b segs_l segs_c), (6, .pointer (some ⟨en, 0, none⟩)), (9, .int .i64 i)] w) (h0 out_b : Option Addr) (out_l out_c : Nat) (segs_b : Option Addr) (segs_l segs_c en : Nat) (i : Int) (w : World) (h : host_Host_emit.L1b h0 out_b out_l out_c segs_b segs_l segs_c en i w  N1 R) :
    KW Tryz.prog 126 34 (host_Host_emit.RV R) ([(0, [1, 0, 1, 0, 0]), (2, [1, 0, 1, 0, 0]), (1, [0]), (0, [1, 1])].map (toItem (Tryz.f126.body.getD .skip))) [(0, .pointer h0), (1, .slice out_b out_l out_c), (3, .slice segs_b segs_l segs_c), (6, .pointer (some ⟨en, 0, none⟩)), (9, .int .i64 i)] w := by
  exact block_spec Tryz.func126 Tryz.mixed (stops_cons (fun σ w h => by
      obtain ⟨h0_, e0, h⟩ := dP_elim h
      obtain ⟨out_b_, out_l_, out_c_, e1, h⟩ := dL_elim h
      obtain ⟨segs_b_, segs_l_, segs_c_, e2, h⟩ := dL_elim h
      obtain ⟨en_, e3, h⟩ := dK_elim h
      obtain ⟨i_, e4, h⟩ := dI_elim h
      exact (hN1 h0_ out_b_ out_l_ out_c_ segs_b_ segs_l_ segs_c_ en_ i_ w h).weaken (Sub.cons (Sub.cons (Sub.cons (Sub.cons (Sub.cons (Sub.nil _) e4) e3) e2) e1) e0)) stops_nil) (Eq.mp (host_Host_emit.L1b_eq h0 out_b out_l out_c segs_b segs_l segs_c en i w  N1 R ) h)
def host_Host_emit.L1 (h0 out_b : Option Addr) (out_l out_c : Nat) (segs_b : Option Addr) (segs_l segs_c en : Nat) (i : Int) (w : World)  (R : Option Addr → Nat → Nat → World → Prop) : Prop :=
  ∃ (I : Nat → Option Addr → Option Addr → Nat → Nat → Option Addr → Nat → Nat → Nat → Int → World → Prop) (m : Nat), I m h0 out_b out_l out_c segs_b segs_l segs_c en i w ∧ ∀ m h0 out_b out_l out_c segs_b segs_l segs_c en i w, I m h0 out_b out_l out_c segs_b segs_l segs_c en i w → host_Host_emit.L1b h0 out_b out_l out_c segs_b segs_l segs_c en i w  (fun h0' out_b' out_l' out_c' segs_b' segs_l' segs_c' en' i' w' => ∃ m', m' < m ∧ I m' h0' out_b' out_l' out_c' segs_b' segs_l' segs_c' en' i' w') R
theorem host_Host_emit.L1_sound {R : Option Addr → Nat → Nat → World → Prop}  (h0 out_b : Option Addr) (out_l out_c : Nat) (segs_b : Option Addr) (segs_l segs_c en : Nat) (i : Int) (w : World) (h : host_Host_emit.L1 h0 out_b out_l out_c segs_b segs_l segs_c en i w  R) :
    KW Tryz.prog 126 34 (host_Host_emit.RV R) ([(0, [1, 0, 1, 0, 0]), (2, [1, 0, 1, 0, 0]), (1, [0]), (0, [1, 1])].map (toItem (Tryz.f126.body.getD .skip))) [(0, .pointer h0), (1, .slice out_b out_l out_c), (3, .slice segs_b segs_l segs_c), (6, .pointer (some ⟨en, 0, none⟩)), (9, .int .i64 i)] w := by
  obtain ⟨I, m, hBase, hr⟩ := h
  refine KW.loop (fun m σ w => ∃ (h0 out_b : Option Addr) (out_l out_c : Nat) (segs_b : Option Addr) (segs_l segs_c en : Nat) (i : Int), σ = [(0, .pointer h0), (1, .slice out_b out_l out_c), (3, .slice segs_b segs_l segs_c), (6, .pointer (some ⟨en, 0, none⟩)), (9, .int .i64 i)] ∧ I m h0 out_b out_l out_c segs_b segs_l segs_c en i w) ?_ m _ w ⟨h0, out_b, out_l, out_c, segs_b, segs_l, segs_c, en, i, rfl, hBase⟩
  rintro m ih σ w ⟨h0, out_b, out_l, out_c, segs_b, segs_l, segs_c, en, i, rfl, hI⟩
  exact host_Host_emit.L1b_sound  (N1 := fun h0' out_b' out_l' out_c' segs_b' segs_l' segs_c' en' i' w' => ∃ m', m' < m ∧ I m' h0' out_b' out_l' out_c' segs_b' segs_l' segs_c' en' i' w') (fun h0' out_b' out_l' out_c' segs_b' segs_l' segs_c' en' i' w' hx => by obtain ⟨m', hlt, hI'⟩ := hx; exact ih m' hlt _ w' ⟨h0', out_b', out_l', out_c', segs_b', segs_l', segs_c', en', i', rfl, hI'⟩) h0 out_b out_l out_c segs_b segs_l segs_c en i w (hr m h0 out_b out_l out_c segs_b segs_l segs_c en i w hI)
def host_Host_emit.B0 (h0 out_b : Option Addr) (out_l out_c : Nat) (en_0 en_1 en_2 en_3 en_4 en_5 en_6 : Int) (en_7 : Bool) (segs_b : Option Addr) (segs_l segs_c : Nat) (w : World)   (R : Option Addr → Nat → Nat → World → Prop) : Prop :=
  New (.cells #[.int .i64 en_0, .int .i64 en_1, .int .i64 en_2, .int .i64 en_3, .int .i64 en_4, .int .i64 en_5, .int .i64 en_6, .bool en_7] 66) w fun en_ w1 =>
  host_Host_emit.L1 h0 out_b out_l out_c segs_b segs_l segs_c en_ (0 : Int) w1  R
theorem host_Host_emit.B0_eq (h0 out_b : Option Addr) (out_l out_c : Nat) (en_0 en_1 en_2 en_3 en_4 en_5 en_6 : Int) (en_7 : Bool) (segs_b : Option Addr) (segs_l segs_c : Nat) (w : World)   (R : Option Addr → Nat → Nat → World → Prop) (sL1 : Option Addr → Option Addr → Nat → Nat → Option Addr → Nat → Nat → Nat → Int → World → Prop) :
    (
  New (.cells #[.int .i64 en_0, .int .i64 en_1, .int .i64 en_2, .int .i64 en_3, .int .i64 en_4, .int .i64 en_5, .int .i64 en_6, .bool en_7] 66) w fun en_ w1 =>
  sL1 h0 out_b out_l out_c segs_b segs_l segs_c en_ (0 : Int) w1) = kstep Tryz.prog 34 Tryz.f126.results.toList (Tryz.f126.body.getD .skip) (host_Host_emit.RV R) (kvc Tryz.prog 34 Tryz.f126.results.toList (Tryz.f126.body.getD .skip) (host_Host_emit.RV R) [([(0, [1, 0, 1, 0, 0]), (2, [1, 0, 1, 0, 0]), (1, [0]), (0, [1, 1])], fun σ w => dP (slotOf σ 0) fun h0_ => dL (slotOf σ 1) fun out_b_ out_l_ out_c_ => dL (slotOf σ 3) fun segs_b_ segs_l_ segs_c_ => dK (slotOf σ 6) fun en_ => dI .i64 (slotOf σ 9) fun i_ => sL1 h0_ out_b_ out_l_ out_c_ segs_b_ segs_l_ segs_c_ en_ i_ w)] 2000) [(0, [])] [(0, .pointer h0), (1, .slice out_b out_l out_c), (2, .agg #[.int .i64 en_0, .int .i64 en_1, .int .i64 en_2, .int .i64 en_3, .int .i64 en_4, .int .i64 en_5, .int .i64 en_6, .bool en_7]), (3, .slice segs_b segs_l segs_c)] w := by kernel_rfl
theorem host_Host_emit.B0_sound {R : Option Addr → Nat → Nat → World → Prop}  (h0 out_b : Option Addr) (out_l out_c : Nat) (en_0 en_1 en_2 en_3 en_4 en_5 en_6 : Int) (en_7 : Bool) (segs_b : Option Addr) (segs_l segs_c : Nat) (w : World) (h : host_Host_emit.B0 h0 out_b out_l out_c en_0 en_1 en_2 en_3 en_4 en_5 en_6 en_7 segs_b segs_l segs_c w   R) :
    KW Tryz.prog 126 34 (host_Host_emit.RV R) ([(0, [])].map (toItem (Tryz.f126.body.getD .skip))) [(0, .pointer h0), (1, .slice out_b out_l out_c), (2, .agg #[.int .i64 en_0, .int .i64 en_1, .int .i64 en_2, .int .i64 en_3, .int .i64 en_4, .int .i64 en_5, .int .i64 en_6, .bool en_7]), (3, .slice segs_b segs_l segs_c)] w := by
  exact block_spec Tryz.func126 Tryz.mixed (stops_cons (fun σ w h => by
      obtain ⟨h0_, e0, h⟩ := dP_elim h
      obtain ⟨out_b_, out_l_, out_c_, e1, h⟩ := dL_elim h
      obtain ⟨segs_b_, segs_l_, segs_c_, e2, h⟩ := dL_elim h
      obtain ⟨en_, e3, h⟩ := dK_elim h
      obtain ⟨i_, e4, h⟩ := dI_elim h
      exact (host_Host_emit.L1_sound  h0_ out_b_ out_l_ out_c_ segs_b_ segs_l_ segs_c_ en_ i_ w h).weaken (Sub.cons (Sub.cons (Sub.cons (Sub.cons (Sub.cons (Sub.nil _) e4) e3) e2) e1) e0)) stops_nil) (Eq.mp (host_Host_emit.B0_eq h0 out_b out_l out_c en_0 en_1 en_2 en_3 en_4 en_5 en_6 en_7 segs_b segs_l segs_c w   R (fun h0_ out_b_ out_l_ out_c_ segs_b_ segs_l_ segs_c_ en_ i_ w => host_Host_emit.L1 h0_ out_b_ out_l_ out_c_ segs_b_ segs_l_ segs_c_ en_ i_ w  R)) h)
theorem host_Host_emit.sound (h0 out_b : Option Addr) (out_l out_c : Nat) (en_0 en_1 en_2 en_3 en_4 en_5 en_6 : Int) (en_7 : Bool) (segs_b : Option Addr) (segs_l segs_c : Nat) (w : World) (R : Option Addr → Nat → Nat → World → Prop) (h : host_Host_emit.B0 h0 out_b out_l out_c en_0 en_1 en_2 en_3 en_4 en_5 en_6 en_7 segs_b segs_l segs_c w R) : host_Host_emit.Call h0 out_b out_l out_c en_0 en_1 en_2 en_3 en_4 en_5 en_6 en_7 segs_b segs_l segs_c w R := by
  have hc := calls_of_block (args := #[.pointer h0, .slice out_b out_l out_c, .agg #[.int .i64 en_0, .int .i64 en_1, .int .i64 en_2, .int .i64 en_3, .int .i64 en_4, .int .i64 en_5, .int .i64 en_6, .bool en_7], .slice segs_b segs_l segs_c]) Tryz.func126 (body := (Tryz.f126.body.getD .skip)) (by kernel_rfl) (by kernel_rfl) (args_slot _) (host_Host_emit.B0_sound h0 out_b out_l out_c en_0 en_1 en_2 en_3 en_4 en_5 en_6 en_7 segs_b segs_l segs_c w h)
  exact hc.mono fun e w' he => by
    obtain ⟨v, rfl, hv⟩ := he
    exact host_Host_emit.RV_elim hv
end Go.Proofs.Qxb6500424aGreat
