import Derived.Test.Qxb6500428aSig
set_option maxRecDepth 100000
set_option linter.unusedVariables false
open Go.Vc
namespace Go.Proofs.Qxb6500428a
def elect_Elect_Leader.B0 (e : Option Addr) (w : World)   (R : Int → World → Prop) : Prop :=
  Pn e fun a =>
  LdI .i64 (a.add 2) w fun x6 =>
  0 ≤ (4 : Int) ∧
  R (IntKind.i64.wrap ((IntKind.i64.wrap (BitVec.ofInt IntKind.i64.bits (x6.fdiv (2 ^ (min (4 : Int).toNat IntKind.i64.bits))) &&& BitVec.ofInt IntKind.i64.bits (3 : Int)).toNat) - (1 : Int))) w
theorem elect_Elect_Leader.B0_eq (e : Option Addr) (w : World)   (R : Int → World → Prop)  :
    (
  Pn e fun a =>
  LdI .i64 (a.add 2) w fun x6 =>
  0 ≤ (4 : Int) ∧
  R (IntKind.i64.wrap ((IntKind.i64.wrap (BitVec.ofInt IntKind.i64.bits (x6.fdiv (2 ^ (min (4 : Int).toNat IntKind.i64.bits))) &&& BitVec.ofInt IntKind.i64.bits (3 : Int)).toNat) - (1 : Int))) w) = kstep Try.prog 10 Try.f59.results.toList (Try.f59.body.getD .skip) (elect_Elect_Leader.RV R) (kvc Try.prog 10 Try.f59.results.toList (Try.f59.body.getD .skip) (elect_Elect_Leader.RV R) [] 2000) [(0, [])] [(0, .pointer e)] w := by kernel_rfl
theorem elect_Elect_Leader.B0_sound {R : Int → World → Prop}  (e : Option Addr) (w : World) (h : elect_Elect_Leader.B0 e w   R) :
    KW Try.prog 59 10 (elect_Elect_Leader.RV R) ([(0, [])].map (toItem (Try.f59.body.getD .skip))) [(0, .pointer e)] w := by
  exact block_spec Try.func59 Try.mixed stops_nil (Eq.mp (elect_Elect_Leader.B0_eq e w   R ) h)
theorem elect_Elect_Leader.sound (e : Option Addr) (w : World) (R : Int → World → Prop) (h : elect_Elect_Leader.B0 e w R) : elect_Elect_Leader.Call e w R := by
  have hc := calls_of_block (args := #[.pointer e]) Try.func59 (body := (Try.f59.body.getD .skip)) (by kernel_rfl) (by kernel_rfl) (args_slot _) (elect_Elect_Leader.B0_sound e w h)
  exact hc.mono fun e w' he => by
    obtain ⟨v, rfl, hv⟩ := he
    exact elect_Elect_Leader.RV_elim hv
def elect_Elect_Clock.B0 (e : Option Addr) (w : World)   (R : Int → World → Prop) : Prop :=
  Pn e fun a =>
  LdI .i64 a w.drew fun x6 =>
  Pn e fun a_1 =>
  LdI .i64 (a_1.add 5) w.drew fun x11 =>
  Pn e fun a_2 =>
  LdI .i64 (a_2.add 4) w.drew fun x15 =>
  api_Timeout.Call x6 w.drew fun r7 w1 =>
  w1.cell? (a_2.add 4) = some (.int .i64 x15) ∧
  w1.cell? (a_1.add 5) = some (.int .i64 x11) ∧
  R (IntKind.i64.wrap (r7 - (IntKind.i64.wrap (x11 - x15)))) w1
theorem elect_Elect_Clock.B0_eq (e : Option Addr) (w : World)   (R : Int → World → Prop)  :
    (
  Pn e fun a =>
  LdI .i64 a w.drew fun x6 =>
  Pn e fun a_1 =>
  LdI .i64 (a_1.add 5) w.drew fun x11 =>
  Pn e fun a_2 =>
  LdI .i64 (a_2.add 4) w.drew fun x15 =>
  api_Timeout.Call x6 w.drew fun r7 w1 =>
  w1.cell? (a_2.add 4) = some (.int .i64 x15) ∧
  w1.cell? (a_1.add 5) = some (.int .i64 x11) ∧
  R (IntKind.i64.wrap (r7 - (IntKind.i64.wrap (x11 - x15)))) w1) = kstep Try.prog 18 Try.f60.results.toList (Try.f60.body.getD .skip) (elect_Elect_Clock.RV R) (kvc Try.prog 18 Try.f60.results.toList (Try.f60.body.getD .skip) (elect_Elect_Clock.RV R) [] 2000) [(0, [])] [(0, .pointer e)] w := by kernel_rfl
theorem elect_Elect_Clock.B0_sound {R : Int → World → Prop}  (e : Option Addr) (w : World) (h : elect_Elect_Clock.B0 e w   R) :
    KW Try.prog 60 18 (elect_Elect_Clock.RV R) ([(0, [])].map (toItem (Try.f60.body.getD .skip))) [(0, .pointer e)] w := by
  exact block_spec Try.func60 Try.mixed stops_nil (Eq.mp (elect_Elect_Clock.B0_eq e w   R ) h)
theorem elect_Elect_Clock.sound (e : Option Addr) (w : World) (R : Int → World → Prop) (h : elect_Elect_Clock.B0 e w R) : elect_Elect_Clock.Call e w R := by
  have hc := calls_of_block (args := #[.pointer e]) Try.func60 (body := (Try.f60.body.getD .skip)) (by kernel_rfl) (by kernel_rfl) (args_slot _) (elect_Elect_Clock.B0_sound e w h)
  exact hc.mono fun e w' he => by
    obtain ⟨v, rfl, hv⟩ := he
    exact elect_Elect_Clock.RV_elim hv
def electm_Elect_Clock.B0 (e : Option Addr) (w : World)   (R : Int → World → Prop) : Prop :=
  Pn e fun a =>
  LdI .i64 (a.add 5) w fun x6 =>
  R x6 w
theorem electm_Elect_Clock.B0_eq (e : Option Addr) (w : World)   (R : Int → World → Prop)  :
    (
  Pn e fun a =>
  LdI .i64 (a.add 5) w fun x6 =>
  R x6 w) = kstep Try.prog 7 Try.f61.results.toList (Try.f61.body.getD .skip) (electm_Elect_Clock.RV R) (kvc Try.prog 7 Try.f61.results.toList (Try.f61.body.getD .skip) (electm_Elect_Clock.RV R) [] 2000) [(0, [])] [(0, .pointer e)] w := by kernel_rfl
theorem electm_Elect_Clock.B0_sound {R : Int → World → Prop}  (e : Option Addr) (w : World) (h : electm_Elect_Clock.B0 e w   R) :
    KW Try.prog 61 7 (electm_Elect_Clock.RV R) ([(0, [])].map (toItem (Try.f61.body.getD .skip))) [(0, .pointer e)] w := by
  exact block_spec Try.func61 Try.mixed stops_nil (Eq.mp (electm_Elect_Clock.B0_eq e w   R ) h)
theorem electm_Elect_Clock.sound (e : Option Addr) (w : World) (R : Int → World → Prop) (h : electm_Elect_Clock.B0 e w R) : electm_Elect_Clock.Call e w R := by
  have hc := calls_of_block (args := #[.pointer e]) Try.func61 (body := (Try.f61.body.getD .skip)) (by kernel_rfl) (by kernel_rfl) (args_slot _) (electm_Elect_Clock.B0_sound e w h)
  exact hc.mono fun e w' he => by
    obtain ⟨v, rfl, hv⟩ := he
    exact electm_Elect_Clock.RV_elim hv
def elect_Elect_Check.B6 (t138 : Bool) (w : World)   (R : ByteArray → World → Prop) : Prop :=
  Bm t138 (
    R (ByteArray.mk #[97, 32, 99, 97, 110, 100, 105, 100, 97, 116, 101, 32, 116, 104, 97, 116, 32, 104, 97, 115, 32, 110, 111, 116, 32, 118, 111, 116, 101, 100, 32, 102, 111, 114, 32, 105, 116, 115, 101, 108, 102, 44, 32, 107, 110, 111, 119, 115, 32, 97, 32, 108, 101, 97, 100, 101, 114, 44, 32, 111, 114, 32, 104, 97, 115, 32, 97, 32, 109, 97, 106, 111, 114, 105, 116, 121]) w) (
    R (ByteArray.mk #[]) w)
theorem elect_Elect_Check.B6_eq (t138 : Bool) (w : World)   (R : ByteArray → World → Prop)  :
    (
  Bm t138 (
    R (ByteArray.mk #[97, 32, 99, 97, 110, 100, 105, 100, 97, 116, 101, 32, 116, 104, 97, 116, 32, 104, 97, 115, 32, 110, 111, 116, 32, 118, 111, 116, 101, 100, 32, 102, 111, 114, 32, 105, 116, 115, 101, 108, 102, 44, 32, 107, 110, 111, 119, 115, 32, 97, 32, 108, 101, 97, 100, 101, 114, 44, 32, 111, 114, 32, 104, 97, 115, 32, 97, 32, 109, 97, 106, 111, 114, 105, 116, 121]) w) (
    R (ByteArray.mk #[]) w)) = kstep Try.prog 170 Try.f62.results.toList (Try.f62.body.getD .skip) (elect_Elect_Check.RV R) (kvc Try.prog 170 Try.f62.results.toList (Try.f62.body.getD .skip) (elect_Elect_Check.RV R) [] 2000) [(0, [1, 1, 1, 1, 1, 1, 1, 1, 1, 1, 1, 0, 1, 0, 1, 1, 1, 0, 1]), (1, [0]), (0, [1, 1, 1, 1, 1, 1, 1, 1, 1, 1, 1, 1])] [(138, .bool t138)] w := by kernel_rfl
theorem elect_Elect_Check.B6_sound {R : ByteArray → World → Prop}  (t138 : Bool) (w : World) (h : elect_Elect_Check.B6 t138 w   R) :
    KW Try.prog 62 170 (elect_Elect_Check.RV R) ([(0, [1, 1, 1, 1, 1, 1, 1, 1, 1, 1, 1, 0, 1, 0, 1, 1, 1, 0, 1]), (1, [0]), (0, [1, 1, 1, 1, 1, 1, 1, 1, 1, 1, 1, 1])].map (toItem (Try.f62.body.getD .skip))) [(138, .bool t138)] w := by
  exact block_spec Try.func62 Try.mixed stops_nil (Eq.mp (elect_Elect_Check.B6_eq t138 w   R ) h)
def elect_Elect_Check.B7 (t169 : Bool) (w : World)   (R : ByteArray → World → Prop) : Prop :=
  Bm t169 (
    R (ByteArray.mk #[97, 32, 108, 101, 97, 100, 101, 114, 32, 119, 105, 116, 104, 111, 117, 116, 32, 105, 116, 115, 32, 111, 119, 110, 32, 118, 111, 116, 101, 44, 32, 110, 97, 109, 101, 44, 32, 109, 97, 106, 111, 114, 105, 116, 121, 44, 32, 111, 114, 32, 119, 105, 116, 104, 32, 97, 32, 114, 117, 110, 110, 105, 110, 103, 32, 99, 108, 111, 99, 107]) w) (
    R (ByteArray.mk #[]) w)
theorem elect_Elect_Check.B7_eq (t169 : Bool) (w : World)   (R : ByteArray → World → Prop)  :
    (
  Bm t169 (
    R (ByteArray.mk #[97, 32, 108, 101, 97, 100, 101, 114, 32, 119, 105, 116, 104, 111, 117, 116, 32, 105, 116, 115, 32, 111, 119, 110, 32, 118, 111, 116, 101, 44, 32, 110, 97, 109, 101, 44, 32, 109, 97, 106, 111, 114, 105, 116, 121, 44, 32, 111, 114, 32, 119, 105, 116, 104, 32, 97, 32, 114, 117, 110, 110, 105, 110, 103, 32, 99, 108, 111, 99, 107]) w) (
    R (ByteArray.mk #[]) w)) = kstep Try.prog 170 Try.f62.results.toList (Try.f62.body.getD .skip) (elect_Elect_Check.RV R) (kvc Try.prog 170 Try.f62.results.toList (Try.f62.body.getD .skip) (elect_Elect_Check.RV R) [] 2000) [(0, [1, 1, 1, 1, 1, 1, 1, 1, 1, 1, 1, 0, 1, 0, 1, 1, 1, 1, 1, 0, 1]), (1, [0]), (0, [1, 1, 1, 1, 1, 1, 1, 1, 1, 1, 1, 1])] [(169, .bool t169)] w := by kernel_rfl
theorem elect_Elect_Check.B7_sound {R : ByteArray → World → Prop}  (t169 : Bool) (w : World) (h : elect_Elect_Check.B7 t169 w   R) :
    KW Try.prog 62 170 (elect_Elect_Check.RV R) ([(0, [1, 1, 1, 1, 1, 1, 1, 1, 1, 1, 1, 0, 1, 0, 1, 1, 1, 1, 1, 0, 1]), (1, [0]), (0, [1, 1, 1, 1, 1, 1, 1, 1, 1, 1, 1, 1])].map (toItem (Try.f62.body.getD .skip))) [(169, .bool t169)] w := by
  exact block_spec Try.func62 Try.mixed stops_nil (Eq.mp (elect_Elect_Check.B7_eq t169 w   R ) h)
def elect_Elect_Check.B5 (e : Option Addr) (role : Int) (t90 : Bool) (w : World)   (R : ByteArray → World → Prop) : Prop :=
  Bm t90 (
    R (ByteArray.mk #[116, 104, 101, 32, 99, 108, 111, 99, 107, 32, 105, 115, 32, 111, 117, 116, 32, 111, 102, 32, 114, 97, 110, 103, 101]) w) (
    elect_Elect_Vote.Call e w fun r92 w1 =>
    elect_Elect_Leader.Call e w1 fun r94 w2 =>
    Pn e fun a =>
    LdI .i64 (a.add 3) w2 fun x98 =>
    elect_count.Call x98 w2 fun r99 w3 =>
    Pn e fun a_1 =>
    LdI .i64 (a_1.add 3) w3.drew fun x103 =>
    Pn e fun a_2 =>
    LdI .i64 a_2 w3.drew fun x107 =>
    elect_bit.Call x107 w3.drew fun r108 w4 =>
    w4.cell? (a_1.add 3) = some (.int .i64 x103) ∧
    Bm (role == (0 : Int)) (
      Pn e fun a_3 =>
      LdI .i64 (a_3.add 3) w4 fun x117 =>
      Bm (x117 != (0 : Int)) (
        R (ByteArray.mk #[97, 32, 102, 111, 108, 108, 111, 119, 101, 114, 32, 119, 105, 116, 104, 32, 118, 111, 116, 101, 115]) w4) (
        R (ByteArray.mk #[]) w4)) (
      Bm (role == (1 : Int)) (
        Pn e fun a_4 =>
        LdI .i64 a_4 w4 fun x125 =>
        Bm (r92 != x125) (
          elect_Elect_Check.B6 true w4  R) (
          Bm (!((IntKind.i64.wrap (BitVec.ofInt IntKind.i64.bits x103 &&& BitVec.ofInt IntKind.i64.bits r108).toNat) != (0 : Int))) (
            elect_Elect_Check.B6 true w4  R) (
            Bm (r94 != (-1 : Int)) (
              elect_Elect_Check.B6 true w4  R) (
              elect_Elect_Check.B6 (decide (r99 ≥ (2 : Int))) w4  R)))) (
        Bm (role == (2 : Int)) (
          Pn e fun a_5 =>
          LdI .i64 a_5 w4 fun x145 =>
          Bm (r92 != x145) (
            elect_Elect_Check.B7 true w4  R) (
            Bm (!((IntKind.i64.wrap (BitVec.ofInt IntKind.i64.bits x103 &&& BitVec.ofInt IntKind.i64.bits r108).toNat) != (0 : Int))) (
              elect_Elect_Check.B7 true w4  R) (
              Pn e fun a_6 =>
              LdI .i64 a_6 w4 fun x156 =>
              Bm (r94 != x156) (
                elect_Elect_Check.B7 true w4  R) (
                Bm (decide (r99 < (2 : Int))) (
                  elect_Elect_Check.B7 true w4  R) (
                  Pn e fun a_7 =>
                  LdI .i64 (a_7.add 4) w4 fun x167 =>
                  elect_Elect_Check.B7 (x167 != (0 : Int)) w4  R))))) (
          R (ByteArray.mk #[]) w4))))
theorem elect_Elect_Check.B5_eq (e : Option Addr) (role : Int) (t90 : Bool) (w : World)   (R : ByteArray → World → Prop) (sB6 : Bool → World → Prop) (sB7 : Bool → World → Prop) :
    (
  Bm t90 (
    R (ByteArray.mk #[116, 104, 101, 32, 99, 108, 111, 99, 107, 32, 105, 115, 32, 111, 117, 116, 32, 111, 102, 32, 114, 97, 110, 103, 101]) w) (
    elect_Elect_Vote.Call e w fun r92 w1 =>
    elect_Elect_Leader.Call e w1 fun r94 w2 =>
    Pn e fun a =>
    LdI .i64 (a.add 3) w2 fun x98 =>
    elect_count.Call x98 w2 fun r99 w3 =>
    Pn e fun a_1 =>
    LdI .i64 (a_1.add 3) w3.drew fun x103 =>
    Pn e fun a_2 =>
    LdI .i64 a_2 w3.drew fun x107 =>
    elect_bit.Call x107 w3.drew fun r108 w4 =>
    w4.cell? (a_1.add 3) = some (.int .i64 x103) ∧
    Bm (role == (0 : Int)) (
      Pn e fun a_3 =>
      LdI .i64 (a_3.add 3) w4 fun x117 =>
      Bm (x117 != (0 : Int)) (
        R (ByteArray.mk #[97, 32, 102, 111, 108, 108, 111, 119, 101, 114, 32, 119, 105, 116, 104, 32, 118, 111, 116, 101, 115]) w4) (
        R (ByteArray.mk #[]) w4)) (
      Bm (role == (1 : Int)) (
        Pn e fun a_4 =>
        LdI .i64 a_4 w4 fun x125 =>
        Bm (r92 != x125) (
          sB6 true w4) (
          Bm (!((IntKind.i64.wrap (BitVec.ofInt IntKind.i64.bits x103 &&& BitVec.ofInt IntKind.i64.bits r108).toNat) != (0 : Int))) (
            sB6 true w4) (
            Bm (r94 != (-1 : Int)) (
              sB6 true w4) (
              sB6 (decide (r99 ≥ (2 : Int))) w4)))) (
        Bm (role == (2 : Int)) (
          Pn e fun a_5 =>
          LdI .i64 a_5 w4 fun x145 =>
          Bm (r92 != x145) (
            sB7 true w4) (
            Bm (!((IntKind.i64.wrap (BitVec.ofInt IntKind.i64.bits x103 &&& BitVec.ofInt IntKind.i64.bits r108).toNat) != (0 : Int))) (
              sB7 true w4) (
              Pn e fun a_6 =>
              LdI .i64 a_6 w4 fun x156 =>
              Bm (r94 != x156) (
                sB7 true w4) (
                Bm (decide (r99 < (2 : Int))) (
                  sB7 true w4) (
                  Pn e fun a_7 =>
                  LdI .i64 (a_7.add 4) w4 fun x167 =>
                  sB7 (x167 != (0 : Int)) w4))))) (
          R (ByteArray.mk #[]) w4))))) = kstep Try.prog 170 Try.f62.results.toList (Try.f62.body.getD .skip) (elect_Elect_Check.RV R) (kvc Try.prog 170 Try.f62.results.toList (Try.f62.body.getD .skip) (elect_Elect_Check.RV R) [([(0, [1, 1, 1, 1, 1, 1, 1, 1, 1, 1, 1, 0, 1, 0, 1, 1, 1, 0, 1]), (1, [0]), (0, [1, 1, 1, 1, 1, 1, 1, 1, 1, 1, 1, 1])], fun σ w => dB (slotOf σ 138) fun t138_ => sB6 t138_ w),
    ([(0, [1, 1, 1, 1, 1, 1, 1, 1, 1, 1, 1, 0, 1, 0, 1, 1, 1, 1, 1, 0, 1]), (1, [0]), (0, [1, 1, 1, 1, 1, 1, 1, 1, 1, 1, 1, 1])], fun σ w => dB (slotOf σ 169) fun t169_ => sB7 t169_ w)] 2000) [(0, [1, 1, 1, 1, 1, 1, 0, 1]), (0, [1, 1, 1, 1, 1, 1, 1])] [(0, .pointer e), (3, .int .i64 role), (90, .bool t90)] w := by kernel_rfl
theorem elect_Elect_Check.B5_sound {R : ByteArray → World → Prop}  (e : Option Addr) (role : Int) (t90 : Bool) (w : World) (h : elect_Elect_Check.B5 e role t90 w   R) :
    KW Try.prog 62 170 (elect_Elect_Check.RV R) ([(0, [1, 1, 1, 1, 1, 1, 0, 1]), (0, [1, 1, 1, 1, 1, 1, 1])].map (toItem (Try.f62.body.getD .skip))) [(0, .pointer e), (3, .int .i64 role), (90, .bool t90)] w := by
  exact block_spec Try.func62 Try.mixed (stops_cons (fun σ w h => by
      obtain ⟨t138_, e0, h⟩ := dB_elim h
      exact (elect_Elect_Check.B6_sound  t138_ w h).weaken (Sub.cons (Sub.nil _) e0)) (stops_cons (fun σ w h => by
      obtain ⟨t169_, e0, h⟩ := dB_elim h
      exact (elect_Elect_Check.B7_sound  t169_ w h).weaken (Sub.cons (Sub.nil _) e0)) stops_nil)) (Eq.mp (elect_Elect_Check.B5_eq e role t90 w   R (fun t138_ w => elect_Elect_Check.B6 t138_ w  R) (fun t169_ w => elect_Elect_Check.B7 t169_ w  R)) h)
def elect_Elect_Check.B4 (e : Option Addr) (role : Int) (t62 : Bool) (w : World)   (R : ByteArray → World → Prop) : Prop :=
  Bm t62 (
    R (ByteArray.mk #[116, 104, 101, 32, 109, 97, 115, 107, 32, 104, 97, 115, 32, 97, 32, 98, 105, 116, 32, 97, 116, 32, 111, 114, 32, 97, 98, 111, 118, 101, 32, 78]) w) (
    Pn e fun a =>
    LdI .i64 (a.add 5) w.drew fun x66 =>
    Pn e fun a_1 =>
    LdI .i64 a_1 w.drew fun x70 =>
    api_Timeout.Call x70 w.drew fun r71 w1 =>
    w1.cell? (a.add 5) = some (.int .i64 x66) ∧
    Bm (x66 != r71) (
      elect_Elect_Check.B5 e role true w1  R) (
      Pn e fun a_2 =>
      LdI .i64 (a_2.add 4) w1 fun x77 =>
      Bm (decide (x77 < (0 : Int))) (
        elect_Elect_Check.B5 e role true w1  R) (
        Pn e fun a_3 =>
        LdI .i64 (a_3.add 4) w1 fun x84 =>
        Pn e fun a_4 =>
        LdI .i64 (a_4.add 5) w1 fun x88 =>
        elect_Elect_Check.B5 e role (decide (x84 ≥ x88)) w1  R)))
theorem elect_Elect_Check.B4_eq (e : Option Addr) (role : Int) (t62 : Bool) (w : World)   (R : ByteArray → World → Prop) (sB5 : Option Addr → Int → Bool → World → Prop) :
    (
  Bm t62 (
    R (ByteArray.mk #[116, 104, 101, 32, 109, 97, 115, 107, 32, 104, 97, 115, 32, 97, 32, 98, 105, 116, 32, 97, 116, 32, 111, 114, 32, 97, 98, 111, 118, 101, 32, 78]) w) (
    Pn e fun a =>
    LdI .i64 (a.add 5) w.drew fun x66 =>
    Pn e fun a_1 =>
    LdI .i64 a_1 w.drew fun x70 =>
    api_Timeout.Call x70 w.drew fun r71 w1 =>
    w1.cell? (a.add 5) = some (.int .i64 x66) ∧
    Bm (x66 != r71) (
      sB5 e role true w1) (
      Pn e fun a_2 =>
      LdI .i64 (a_2.add 4) w1 fun x77 =>
      Bm (decide (x77 < (0 : Int))) (
        sB5 e role true w1) (
        Pn e fun a_3 =>
        LdI .i64 (a_3.add 4) w1 fun x84 =>
        Pn e fun a_4 =>
        LdI .i64 (a_4.add 5) w1 fun x88 =>
        sB5 e role (decide (x84 ≥ x88)) w1)))) = kstep Try.prog 170 Try.f62.results.toList (Try.f62.body.getD .skip) (elect_Elect_Check.RV R) (kvc Try.prog 170 Try.f62.results.toList (Try.f62.body.getD .skip) (elect_Elect_Check.RV R) [([(0, [1, 1, 1, 1, 1, 1, 0, 1]), (0, [1, 1, 1, 1, 1, 1, 1])], fun σ w => dP (slotOf σ 0) fun e_ => dI .i64 (slotOf σ 3) fun role_ => dB (slotOf σ 90) fun t90_ => sB5 e_ role_ t90_ w)] 2000) [(0, [1, 1, 1, 1, 1, 0, 1]), (0, [1, 1, 1, 1, 1, 1])] [(0, .pointer e), (3, .int .i64 role), (62, .bool t62)] w := by kernel_rfl
theorem elect_Elect_Check.B4_sound {R : ByteArray → World → Prop}  (e : Option Addr) (role : Int) (t62 : Bool) (w : World) (h : elect_Elect_Check.B4 e role t62 w   R) :
    KW Try.prog 62 170 (elect_Elect_Check.RV R) ([(0, [1, 1, 1, 1, 1, 0, 1]), (0, [1, 1, 1, 1, 1, 1])].map (toItem (Try.f62.body.getD .skip))) [(0, .pointer e), (3, .int .i64 role), (62, .bool t62)] w := by
  exact block_spec Try.func62 Try.mixed (stops_cons (fun σ w h => by
      obtain ⟨e_, e0, h⟩ := dP_elim h
      obtain ⟨role_, e1, h⟩ := dI_elim h
      obtain ⟨t90_, e2, h⟩ := dB_elim h
      exact (elect_Elect_Check.B5_sound  e_ role_ t90_ w h).weaken (Sub.cons (Sub.cons (Sub.cons (Sub.nil _) e2) e1) e0)) stops_nil) (Eq.mp (elect_Elect_Check.B4_eq e role t62 w   R (fun e_ role_ t90_ w => elect_Elect_Check.B5 e_ role_ t90_ w  R)) h)
def elect_Elect_Check.B3 (e : Option Addr) (role : Int) (t49 : Bool) (w : World)   (R : ByteArray → World → Prop) : Prop :=
  Bm t49 (
    R (ByteArray.mk #[116, 104, 101, 32, 119, 111, 114, 100, 32, 104, 111, 108, 100, 115, 32, 119, 104, 97, 116, 32, 110, 111, 32, 112, 97, 99, 107, 105, 110, 103, 32, 103, 105, 118, 101, 115]) w) (
    Pn e fun a =>
    LdI .i64 (a.add 3) w.drew fun x53 =>
    Bm (decide (x53 < (0 : Int))) (
      elect_Elect_Check.B4 e role true w.drew  R) (
      Pn e fun a_1 =>
      LdI .i64 (a_1.add 3) w.drew fun x59 =>
      elect_bit.Call (3 : Int) w.drew fun r60 w1 =>
      w1.cell? (a_1.add 3) = some (.int .i64 x59) ∧
      elect_Elect_Check.B4 e role (decide (x59 ≥ r60)) w1  R))
theorem elect_Elect_Check.B3_eq (e : Option Addr) (role : Int) (t49 : Bool) (w : World)   (R : ByteArray → World → Prop) (sB4 : Option Addr → Int → Bool → World → Prop) :
    (
  Bm t49 (
    R (ByteArray.mk #[116, 104, 101, 32, 119, 111, 114, 100, 32, 104, 111, 108, 100, 115, 32, 119, 104, 97, 116, 32, 110, 111, 32, 112, 97, 99, 107, 105, 110, 103, 32, 103, 105, 118, 101, 115]) w) (
    Pn e fun a =>
    LdI .i64 (a.add 3) w.drew fun x53 =>
    Bm (decide (x53 < (0 : Int))) (
      sB4 e role true w.drew) (
      Pn e fun a_1 =>
      LdI .i64 (a_1.add 3) w.drew fun x59 =>
      elect_bit.Call (3 : Int) w.drew fun r60 w1 =>
      w1.cell? (a_1.add 3) = some (.int .i64 x59) ∧
      sB4 e role (decide (x59 ≥ r60)) w1))) = kstep Try.prog 170 Try.f62.results.toList (Try.f62.body.getD .skip) (elect_Elect_Check.RV R) (kvc Try.prog 170 Try.f62.results.toList (Try.f62.body.getD .skip) (elect_Elect_Check.RV R) [([(0, [1, 1, 1, 1, 1, 0, 1]), (0, [1, 1, 1, 1, 1, 1])], fun σ w => dP (slotOf σ 0) fun e_ => dI .i64 (slotOf σ 3) fun role_ => dB (slotOf σ 62) fun t62_ => sB4 e_ role_ t62_ w)] 2000) [(0, [1, 1, 1, 1, 0, 1]), (0, [1, 1, 1, 1, 1])] [(0, .pointer e), (3, .int .i64 role), (49, .bool t49)] w := by kernel_rfl
theorem elect_Elect_Check.B3_sound {R : ByteArray → World → Prop}  (e : Option Addr) (role : Int) (t49 : Bool) (w : World) (h : elect_Elect_Check.B3 e role t49 w   R) :
    KW Try.prog 62 170 (elect_Elect_Check.RV R) ([(0, [1, 1, 1, 1, 0, 1]), (0, [1, 1, 1, 1, 1])].map (toItem (Try.f62.body.getD .skip))) [(0, .pointer e), (3, .int .i64 role), (49, .bool t49)] w := by
  exact block_spec Try.func62 Try.mixed (stops_cons (fun σ w h => by
      obtain ⟨e_, e0, h⟩ := dP_elim h
      obtain ⟨role_, e1, h⟩ := dI_elim h
      obtain ⟨t62_, e2, h⟩ := dB_elim h
      exact (elect_Elect_Check.B4_sound  e_ role_ t62_ w h).weaken (Sub.cons (Sub.cons (Sub.cons (Sub.nil _) e2) e1) e0)) stops_nil) (Eq.mp (elect_Elect_Check.B3_eq e role t49 w   R (fun e_ role_ t62_ w => elect_Elect_Check.B4 e_ role_ t62_ w  R)) h)
def elect_Elect_Check.B2 (e : Option Addr) (t31 : Bool) (w : World)   (R : ByteArray → World → Prop) : Prop :=
  Bm t31 (
    R (ByteArray.mk #[116, 101, 114, 109, 32, 111, 117, 116, 32, 111, 102, 32, 114, 97, 110, 103, 101]) w) (
    elect_Elect_Role.Call e w fun r33 w1 =>
    Pn e fun a =>
    LdI .i64 (a.add 2) w1 fun x37 =>
    Bm (decide (x37 < (0 : Int))) (
      elect_Elect_Check.B3 e r33 true w1  R) (
      Pn e fun a_1 =>
      LdI .i64 (a_1.add 2) w1 fun x43 =>
      Bm (decide (x43 ≥ (64 : Int))) (
        elect_Elect_Check.B3 e r33 true w1  R) (
        elect_Elect_Check.B3 e r33 (decide (r33 > (2 : Int))) w1  R)))
theorem elect_Elect_Check.B2_eq (e : Option Addr) (t31 : Bool) (w : World)   (R : ByteArray → World → Prop) (sB3 : Option Addr → Int → Bool → World → Prop) :
    (
  Bm t31 (
    R (ByteArray.mk #[116, 101, 114, 109, 32, 111, 117, 116, 32, 111, 102, 32, 114, 97, 110, 103, 101]) w) (
    elect_Elect_Role.Call e w fun r33 w1 =>
    Pn e fun a =>
    LdI .i64 (a.add 2) w1 fun x37 =>
    Bm (decide (x37 < (0 : Int))) (
      sB3 e r33 true w1) (
      Pn e fun a_1 =>
      LdI .i64 (a_1.add 2) w1 fun x43 =>
      Bm (decide (x43 ≥ (64 : Int))) (
        sB3 e r33 true w1) (
        sB3 e r33 (decide (r33 > (2 : Int))) w1)))) = kstep Try.prog 170 Try.f62.results.toList (Try.f62.body.getD .skip) (elect_Elect_Check.RV R) (kvc Try.prog 170 Try.f62.results.toList (Try.f62.body.getD .skip) (elect_Elect_Check.RV R) [([(0, [1, 1, 1, 1, 0, 1]), (0, [1, 1, 1, 1, 1])], fun σ w => dP (slotOf σ 0) fun e_ => dI .i64 (slotOf σ 3) fun role_ => dB (slotOf σ 49) fun t49_ => sB3 e_ role_ t49_ w)] 2000) [(0, [1, 1, 0, 1]), (0, [1, 1, 1])] [(0, .pointer e), (31, .bool t31)] w := by kernel_rfl
theorem elect_Elect_Check.B2_sound {R : ByteArray → World → Prop}  (e : Option Addr) (t31 : Bool) (w : World) (h : elect_Elect_Check.B2 e t31 w   R) :
    KW Try.prog 62 170 (elect_Elect_Check.RV R) ([(0, [1, 1, 0, 1]), (0, [1, 1, 1])].map (toItem (Try.f62.body.getD .skip))) [(0, .pointer e), (31, .bool t31)] w := by
  exact block_spec Try.func62 Try.mixed (stops_cons (fun σ w h => by
      obtain ⟨e_, e0, h⟩ := dP_elim h
      obtain ⟨role_, e1, h⟩ := dI_elim h
      obtain ⟨t49_, e2, h⟩ := dB_elim h
      exact (elect_Elect_Check.B3_sound  e_ role_ t49_ w h).weaken (Sub.cons (Sub.cons (Sub.cons (Sub.nil _) e2) e1) e0)) stops_nil) (Eq.mp (elect_Elect_Check.B2_eq e t31 w   R (fun e_ role_ t49_ w => elect_Elect_Check.B3 e_ role_ t49_ w  R)) h)
def elect_Elect_Check.B1 (e : Option Addr) (t19 : Bool) (w : World)   (R : ByteArray → World → Prop) : Prop :=
  Bm t19 (
    R (ByteArray.mk #[105, 100, 32, 111, 117, 116, 32, 111, 102, 32, 114, 97, 110, 103, 101]) w) (
    Pn e fun a =>
    LdI .i64 (a.add 1) w fun x23 =>
    Bm (decide (x23 < (0 : Int))) (
      elect_Elect_Check.B2 e true w  R) (
      Pn e fun a_1 =>
      LdI .i64 (a_1.add 1) w fun x29 =>
      elect_Elect_Check.B2 e (decide (x29 > (72057594037927936 : Int))) w  R))
theorem elect_Elect_Check.B1_eq (e : Option Addr) (t19 : Bool) (w : World)   (R : ByteArray → World → Prop) (sB2 : Option Addr → Bool → World → Prop) :
    (
  Bm t19 (
    R (ByteArray.mk #[105, 100, 32, 111, 117, 116, 32, 111, 102, 32, 114, 97, 110, 103, 101]) w) (
    Pn e fun a =>
    LdI .i64 (a.add 1) w fun x23 =>
    Bm (decide (x23 < (0 : Int))) (
      sB2 e true w) (
      Pn e fun a_1 =>
      LdI .i64 (a_1.add 1) w fun x29 =>
      sB2 e (decide (x29 > (72057594037927936 : Int))) w))) = kstep Try.prog 170 Try.f62.results.toList (Try.f62.body.getD .skip) (elect_Elect_Check.RV R) (kvc Try.prog 170 Try.f62.results.toList (Try.f62.body.getD .skip) (elect_Elect_Check.RV R) [([(0, [1, 1, 0, 1]), (0, [1, 1, 1])], fun σ w => dP (slotOf σ 0) fun e_ => dB (slotOf σ 31) fun t31_ => sB2 e_ t31_ w)] 2000) [(0, [1, 0, 1]), (0, [1, 1])] [(0, .pointer e), (19, .bool t19)] w := by kernel_rfl
theorem elect_Elect_Check.B1_sound {R : ByteArray → World → Prop}  (e : Option Addr) (t19 : Bool) (w : World) (h : elect_Elect_Check.B1 e t19 w   R) :
    KW Try.prog 62 170 (elect_Elect_Check.RV R) ([(0, [1, 0, 1]), (0, [1, 1])].map (toItem (Try.f62.body.getD .skip))) [(0, .pointer e), (19, .bool t19)] w := by
  exact block_spec Try.func62 Try.mixed (stops_cons (fun σ w h => by
      obtain ⟨e_, e0, h⟩ := dP_elim h
      obtain ⟨t31_, e1, h⟩ := dB_elim h
      exact (elect_Elect_Check.B2_sound  e_ t31_ w h).weaken (Sub.cons (Sub.cons (Sub.nil _) e1) e0)) stops_nil) (Eq.mp (elect_Elect_Check.B1_eq e t19 w   R (fun e_ t31_ w => elect_Elect_Check.B2 e_ t31_ w  R)) h)
def elect_Elect_Check.B0 (e : Option Addr) (w : World)   (R : ByteArray → World → Prop) : Prop :=
  Pn e fun a =>
  LdI .i64 a w fun x11 =>
  Bm (decide (x11 < (0 : Int))) (
    elect_Elect_Check.B1 e true w  R) (
    Pn e fun a_1 =>
    LdI .i64 a_1 w fun x17 =>
    elect_Elect_Check.B1 e (decide (x17 ≥ (3 : Int))) w  R)
theorem elect_Elect_Check.B0_eq (e : Option Addr) (w : World)   (R : ByteArray → World → Prop) (sB1 : Option Addr → Bool → World → Prop) :
    (
  Pn e fun a =>
  LdI .i64 a w fun x11 =>
  Bm (decide (x11 < (0 : Int))) (
    sB1 e true w) (
    Pn e fun a_1 =>
    LdI .i64 a_1 w fun x17 =>
    sB1 e (decide (x17 ≥ (3 : Int))) w)) = kstep Try.prog 170 Try.f62.results.toList (Try.f62.body.getD .skip) (elect_Elect_Check.RV R) (kvc Try.prog 170 Try.f62.results.toList (Try.f62.body.getD .skip) (elect_Elect_Check.RV R) [([(0, [1, 0, 1]), (0, [1, 1])], fun σ w => dP (slotOf σ 0) fun e_ => dB (slotOf σ 19) fun t19_ => sB1 e_ t19_ w)] 2000) [(0, [])] [(0, .pointer e)] w := by kernel_rfl
theorem elect_Elect_Check.B0_sound {R : ByteArray → World → Prop}  (e : Option Addr) (w : World) (h : elect_Elect_Check.B0 e w   R) :
    KW Try.prog 62 170 (elect_Elect_Check.RV R) ([(0, [])].map (toItem (Try.f62.body.getD .skip))) [(0, .pointer e)] w := by
  exact block_spec Try.func62 Try.mixed (stops_cons (fun σ w h => by
      obtain ⟨e_, e0, h⟩ := dP_elim h
      obtain ⟨t19_, e1, h⟩ := dB_elim h
      exact (elect_Elect_Check.B1_sound  e_ t19_ w h).weaken (Sub.cons (Sub.cons (Sub.nil _) e1) e0)) stops_nil) (Eq.mp (elect_Elect_Check.B0_eq e w   R (fun e_ t19_ w => elect_Elect_Check.B1 e_ t19_ w  R)) h)
theorem elect_Elect_Check.sound (e : Option Addr) (w : World) (R : ByteArray → World → Prop) (h : elect_Elect_Check.B0 e w R) : elect_Elect_Check.Call e w R := by
  have hc := calls_of_block (args := #[.pointer e]) Try.func62 (body := (Try.f62.body.getD .skip)) (by kernel_rfl) (by kernel_rfl) (args_slot _) (elect_Elect_Check.B0_sound e w h)
  exact hc.mono fun e w' he => by
    obtain ⟨v, rfl, hv⟩ := he
    exact elect_Elect_Check.RV_elim hv
def elect_bit.L1b (p b i : Int) (w : World)  (N1 : Int → Int → Int → World → Prop) (R : Int → World → Prop) : Prop :=
  Bm (decide (i < p)) (
    0 ≤ (1 : Int) ∧
    N1 p (IntKind.i64.wrap (b * 2 ^ (min (1 : Int).toNat IntKind.i64.bits))) (IntKind.i64.wrap (i + (1 : Int))) w) (
    R b w)
theorem elect_bit.L1b_eq (p b i : Int) (w : World)  (N1 : Int → Int → Int → World → Prop) (R : Int → World → Prop)  :
    (
  Bm (decide (i < p)) (
    0 ≤ (1 : Int) ∧
    N1 p (IntKind.i64.wrap (b * 2 ^ (min (1 : Int).toNat IntKind.i64.bits))) (IntKind.i64.wrap (i + (1 : Int))) w) (
    R b w)) = kstep Try.prog 13 Try.f63.results.toList (Try.f63.body.getD .skip) (elect_bit.RV R) (kvc Try.prog 13 Try.f63.results.toList (Try.f63.body.getD .skip) (elect_bit.RV R) [([(0, [1, 1, 0, 1, 0, 0]), (2, [1, 1, 0, 1, 0, 0]), (1, [0]), (0, [1, 1, 1])], fun σ w => dI .i64 (slotOf σ 0) fun p_ => dI .i64 (slotOf σ 3) fun b_ => dI .i64 (slotOf σ 4) fun i_ => N1 p_ b_ i_ w)] 2000) [(0, [1, 1, 0, 1, 0, 0]), (2, [1, 1, 0, 1, 0, 0]), (1, [0]), (0, [1, 1, 1])] [(0, .int .i64 p), (3, .int .i64 b), (4, .int .i64 i)] w := by kernel_rfl
theorem elect_bit.L1b_sound {R : Int → World → Prop} {N1 : Int → Int → Int → World → Prop} (hN1 : ∀ p b i w, N1 p b i w → KW Try.prog 63 13 (elect_bit.RV R) ([(0, [1, 1, 0, 1, 0, 0]), (2, [1, 1, 0, 1, 0, 0]), (1, [0]), (0, [1, 1, 1])].map (toItem (Try.f63.body.getD .skip))) [(0, .int .i64 p), (3, .int .i64 b), (4, .int .i64 i)] w) (p b i : Int) (w : World) (h : elect_bit.L1b p b i w  N1 R) :
    KW Try.prog 63 13 (elect_bit.RV R) ([(0, [1, 1, 0, 1, 0, 0]), (2, [1, 1, 0, 1, 0, 0]), (1, [0]), (0, [1, 1, 1])].map (toItem (Try.f63.body.getD .skip))) [(0, .int .i64 p), (3, .int .i64 b), (4, .int .i64 i)] w := by
  exact block_spec Try.func63 Try.mixed (stops_cons (fun σ w h => by
      obtain ⟨p_, e0, h⟩ := dI_elim h
      obtain ⟨b_, e1, h⟩ := dI_elim h
      obtain ⟨i_, e2, h⟩ := dI_elim h
      exact (hN1 p_ b_ i_ w h).weaken (Sub.cons (Sub.cons (Sub.cons (Sub.nil _) e2) e1) e0)) stops_nil) (Eq.mp (elect_bit.L1b_eq p b i w  N1 R ) h)
def elect_bit.L1 (p b i : Int) (w : World)  (R : Int → World → Prop) : Prop :=
  ∃ (I : Nat → Int → Int → Int → World → Prop) (m : Nat), I m p b i w ∧ ∀ m p b i w, I m p b i w → elect_bit.L1b p b i w  (fun p' b' i' w' => ∃ m', m' < m ∧ I m' p' b' i' w') R
theorem elect_bit.L1_sound {R : Int → World → Prop}  (p b i : Int) (w : World) (h : elect_bit.L1 p b i w  R) :
    KW Try.prog 63 13 (elect_bit.RV R) ([(0, [1, 1, 0, 1, 0, 0]), (2, [1, 1, 0, 1, 0, 0]), (1, [0]), (0, [1, 1, 1])].map (toItem (Try.f63.body.getD .skip))) [(0, .int .i64 p), (3, .int .i64 b), (4, .int .i64 i)] w := by
  obtain ⟨I, m, h0, hr⟩ := h
  refine KW.loop (fun m σ w => ∃ (p b i : Int), σ = [(0, .int .i64 p), (3, .int .i64 b), (4, .int .i64 i)] ∧ I m p b i w) ?_ m _ w ⟨p, b, i, rfl, h0⟩
  rintro m ih σ w ⟨p, b, i, rfl, hI⟩
  exact elect_bit.L1b_sound  (N1 := fun p' b' i' w' => ∃ m', m' < m ∧ I m' p' b' i' w') (fun p' b' i' w' hx => by obtain ⟨m', hlt, hI'⟩ := hx; exact ih m' hlt _ w' ⟨p', b', i', rfl, hI'⟩) p b i w (hr m p b i w hI)
def elect_bit.B0 (p : Int) (w : World)   (R : Int → World → Prop) : Prop :=
  elect_bit.L1 p (1 : Int) (0 : Int) w  R
theorem elect_bit.B0_eq (p : Int) (w : World)   (R : Int → World → Prop) (sL1 : Int → Int → Int → World → Prop) :
    (
  sL1 p (1 : Int) (0 : Int) w) = kstep Try.prog 13 Try.f63.results.toList (Try.f63.body.getD .skip) (elect_bit.RV R) (kvc Try.prog 13 Try.f63.results.toList (Try.f63.body.getD .skip) (elect_bit.RV R) [([(0, [1, 1, 0, 1, 0, 0]), (2, [1, 1, 0, 1, 0, 0]), (1, [0]), (0, [1, 1, 1])], fun σ w => dI .i64 (slotOf σ 0) fun p_ => dI .i64 (slotOf σ 3) fun b_ => dI .i64 (slotOf σ 4) fun i_ => sL1 p_ b_ i_ w)] 2000) [(0, [])] [(0, .int .i64 p)] w := by kernel_rfl
theorem elect_bit.B0_sound {R : Int → World → Prop}  (p : Int) (w : World) (h : elect_bit.B0 p w   R) :
    KW Try.prog 63 13 (elect_bit.RV R) ([(0, [])].map (toItem (Try.f63.body.getD .skip))) [(0, .int .i64 p)] w := by
  exact block_spec Try.func63 Try.mixed (stops_cons (fun σ w h => by
      obtain ⟨p_, e0, h⟩ := dI_elim h
      obtain ⟨b_, e1, h⟩ := dI_elim h
      obtain ⟨i_, e2, h⟩ := dI_elim h
      exact (elect_bit.L1_sound  p_ b_ i_ w h).weaken (Sub.cons (Sub.cons (Sub.cons (Sub.nil _) e2) e1) e0)) stops_nil) (Eq.mp (elect_bit.B0_eq p w   R (fun p_ b_ i_ w => elect_bit.L1 p_ b_ i_ w  R)) h)
theorem elect_bit.sound (p : Int) (w : World) (R : Int → World → Prop) (h : elect_bit.B0 p w R) : elect_bit.Call p w R := by
  have hc := calls_of_block (args := #[.int .i64 p]) Try.func63 (body := (Try.f63.body.getD .skip)) (by kernel_rfl) (by kernel_rfl) (args_slot _) (elect_bit.B0_sound p w h)
  exact hc.mono fun e w' he => by
    obtain ⟨v, rfl, hv⟩ := he
    exact elect_bit.RV_elim hv
def elect_turn.B1 (t11 : Bool) (w : World)   (R : Int → World → Prop) : Prop :=
  Bm t11 (
    R (0 : Int) w) (
    R (-1 : Int) w)
theorem elect_turn.B1_eq (t11 : Bool) (w : World)   (R : Int → World → Prop)  :
    (
  Bm t11 (
    R (0 : Int) w) (
    R (-1 : Int) w)) = kstep Try.prog 29 Try.f64.results.toList (Try.f64.body.getD .skip) (elect_turn.RV R) (kvc Try.prog 29 Try.f64.results.toList (Try.f64.body.getD .skip) (elect_turn.RV R) [] 2000) [(0, [1, 0, 1, 0, 1, 0, 1, 0, 1, 1, 1]), (1, [1]), (1, [0]), (0, [1, 1])] [(11, .bool t11)] w := by kernel_rfl
theorem elect_turn.B1_sound {R : Int → World → Prop}  (t11 : Bool) (w : World) (h : elect_turn.B1 t11 w   R) :
    KW Try.prog 64 29 (elect_turn.RV R) ([(0, [1, 0, 1, 0, 1, 0, 1, 0, 1, 1, 1]), (1, [1]), (1, [0]), (0, [1, 1])].map (toItem (Try.f64.body.getD .skip))) [(11, .bool t11)] w := by
  exact block_spec Try.func64 Try.mixed stops_nil (Eq.mp (elect_turn.B1_eq t11 w   R ) h)
def elect_turn.B3 (t16 : Int) (t20 : Bool) (w : World)   (R : Int → World → Prop) : Prop :=
  Bm t20 (
    R (0 : Int) w) (
    Bm (t16 == (3 : Int)) (
      R (2 : Int) w) (
      R (-1 : Int) w))
theorem elect_turn.B3_eq (t16 : Int) (t20 : Bool) (w : World)   (R : Int → World → Prop)  :
    (
  Bm t20 (
    R (0 : Int) w) (
    Bm (t16 == (3 : Int)) (
      R (2 : Int) w) (
      R (-1 : Int) w))) = kstep Try.prog 29 Try.f64.results.toList (Try.f64.body.getD .skip) (elect_turn.RV R) (kvc Try.prog 29 Try.f64.results.toList (Try.f64.body.getD .skip) (elect_turn.RV R) [] 2000) [(0, [1, 0, 1, 0, 1, 1, 1, 0, 1, 0, 1, 1, 1]), (1, [2]), (1, [0]), (0, [1, 1])] [(16, .int .i64 t16), (20, .bool t20)] w := by kernel_rfl
theorem elect_turn.B3_sound {R : Int → World → Prop}  (t16 : Int) (t20 : Bool) (w : World) (h : elect_turn.B3 t16 t20 w   R) :
    KW Try.prog 64 29 (elect_turn.RV R) ([(0, [1, 0, 1, 0, 1, 1, 1, 0, 1, 0, 1, 1, 1]), (1, [2]), (1, [0]), (0, [1, 1])].map (toItem (Try.f64.body.getD .skip))) [(16, .int .i64 t16), (20, .bool t20)] w := by
  exact block_spec Try.func64 Try.mixed stops_nil (Eq.mp (elect_turn.B3_eq t16 t20 w   R ) h)
def elect_turn.B2 (t16 : Int) (t17 : Bool) (w : World)   (R : Int → World → Prop) : Prop :=
  Bm t17 (
    R (1 : Int) w) (
    Bm (t16 == (1 : Int)) (
      elect_turn.B3 t16 (t16 == (1 : Int)) w  R) (
      elect_turn.B3 t16 (t16 == (4 : Int)) w  R))
theorem elect_turn.B2_eq (t16 : Int) (t17 : Bool) (w : World)   (R : Int → World → Prop) (sB3 : Int → Bool → World → Prop) :
    (
  Bm t17 (
    R (1 : Int) w) (
    Bm (t16 == (1 : Int)) (
      sB3 t16 (t16 == (1 : Int)) w) (
      sB3 t16 (t16 == (4 : Int)) w))) = kstep Try.prog 29 Try.f64.results.toList (Try.f64.body.getD .skip) (elect_turn.RV R) (kvc Try.prog 29 Try.f64.results.toList (Try.f64.body.getD .skip) (elect_turn.RV R) [([(0, [1, 0, 1, 0, 1, 1, 1, 0, 1, 0, 1, 1, 1]), (1, [2]), (1, [0]), (0, [1, 1])], fun σ w => dI .i64 (slotOf σ 16) fun t16_ => dB (slotOf σ 20) fun t20_ => sB3 t16_ t20_ w)] 2000) [(0, [1, 0, 1, 0, 1, 1, 1, 0, 1, 0, 1]), (1, [2]), (1, [0]), (0, [1, 1])] [(16, .int .i64 t16), (17, .bool t17)] w := by kernel_rfl
theorem elect_turn.B2_sound {R : Int → World → Prop}  (t16 : Int) (t17 : Bool) (w : World) (h : elect_turn.B2 t16 t17 w   R) :
    KW Try.prog 64 29 (elect_turn.RV R) ([(0, [1, 0, 1, 0, 1, 1, 1, 0, 1, 0, 1]), (1, [2]), (1, [0]), (0, [1, 1])].map (toItem (Try.f64.body.getD .skip))) [(16, .int .i64 t16), (17, .bool t17)] w := by
  exact block_spec Try.func64 Try.mixed (stops_cons (fun σ w h => by
      obtain ⟨t16_, e0, h⟩ := dI_elim h
      obtain ⟨t20_, e1, h⟩ := dB_elim h
      exact (elect_turn.B3_sound  t16_ t20_ w h).weaken (Sub.cons (Sub.cons (Sub.nil _) e1) e0)) stops_nil) (Eq.mp (elect_turn.B2_eq t16 t17 w   R (fun t16_ t20_ w => elect_turn.B3 t16_ t20_ w  R)) h)
def elect_turn.B0 (role ev : Int) (w : World)   (R : Int → World → Prop) : Prop :=
  Bm (role == (0 : Int)) (
    Bm (ev == (0 : Int)) (
      R (1 : Int) w) (
      Bm (ev == (1 : Int)) (
        elect_turn.B1 (ev == (1 : Int)) w  R) (
        elect_turn.B1 (ev == (4 : Int)) w  R))) (
    Bm (role == (1 : Int)) (
      Bm (ev == (0 : Int)) (
        elect_turn.B2 ev (ev == (0 : Int)) w  R) (
        elect_turn.B2 ev (ev == (2 : Int)) w  R)) (
      Bm (role == (2 : Int)) (
        Bm (ev == (1 : Int)) (
          R (0 : Int) w) (
          R (-1 : Int) w)) (
        R (-1 : Int) w)))
theorem elect_turn.B0_eq (role ev : Int) (w : World)   (R : Int → World → Prop) (sB1 : Bool → World → Prop) (sB2 : Int → Bool → World → Prop) :
    (
  Bm (role == (0 : Int)) (
    Bm (ev == (0 : Int)) (
      R (1 : Int) w) (
      Bm (ev == (1 : Int)) (
        sB1 (ev == (1 : Int)) w) (
        sB1 (ev == (4 : Int)) w))) (
    Bm (role == (1 : Int)) (
      Bm (ev == (0 : Int)) (
        sB2 ev (ev == (0 : Int)) w) (
        sB2 ev (ev == (2 : Int)) w)) (
      Bm (role == (2 : Int)) (
        Bm (ev == (1 : Int)) (
          R (0 : Int) w) (
          R (-1 : Int) w)) (
        R (-1 : Int) w)))) = kstep Try.prog 29 Try.f64.results.toList (Try.f64.body.getD .skip) (elect_turn.RV R) (kvc Try.prog 29 Try.f64.results.toList (Try.f64.body.getD .skip) (elect_turn.RV R) [([(0, [1, 0, 1, 0, 1, 0, 1, 0, 1, 1, 1]), (1, [1]), (1, [0]), (0, [1, 1])], fun σ w => dB (slotOf σ 11) fun t11_ => sB1 t11_ w),
    ([(0, [1, 0, 1, 0, 1, 1, 1, 0, 1, 0, 1]), (1, [2]), (1, [0]), (0, [1, 1])], fun σ w => dI .i64 (slotOf σ 16) fun t16_ => dB (slotOf σ 17) fun t17_ => sB2 t16_ t17_ w)] 2000) [(0, [])] [(0, .int .i64 role), (1, .int .i64 ev)] w := by kernel_rfl
theorem elect_turn.B0_sound {R : Int → World → Prop}  (role ev : Int) (w : World) (h : elect_turn.B0 role ev w   R) :
    KW Try.prog 64 29 (elect_turn.RV R) ([(0, [])].map (toItem (Try.f64.body.getD .skip))) [(0, .int .i64 role), (1, .int .i64 ev)] w := by
  exact block_spec Try.func64 Try.mixed (stops_cons (fun σ w h => by
      obtain ⟨t11_, e0, h⟩ := dB_elim h
      exact (elect_turn.B1_sound  t11_ w h).weaken (Sub.cons (Sub.nil _) e0)) (stops_cons (fun σ w h => by
      obtain ⟨t16_, e0, h⟩ := dI_elim h
      obtain ⟨t17_, e1, h⟩ := dB_elim h
      exact (elect_turn.B2_sound  t16_ t17_ w h).weaken (Sub.cons (Sub.cons (Sub.nil _) e1) e0)) stops_nil)) (Eq.mp (elect_turn.B0_eq role ev w   R (fun t11_ w => elect_turn.B1 t11_ w  R) (fun t16_ t17_ w => elect_turn.B2 t16_ t17_ w  R)) h)
theorem elect_turn.sound (role ev : Int) (w : World) (R : Int → World → Prop) (h : elect_turn.B0 role ev w R) : elect_turn.Call role ev w R := by
  have hc := calls_of_block (args := #[.int .i64 role, .int .i64 ev]) Try.func64 (body := (Try.f64.body.getD .skip)) (by kernel_rfl) (by kernel_rfl) (args_slot _) (elect_turn.B0_sound role ev w h)
  exact hc.mono fun e w' he => by
    obtain ⟨v, rfl, hv⟩ := he
    exact elect_turn.RV_elim hv
def elect_Elect_peer.B0 (e : Option Addr) (p : Int) (w : World)   (R : Bool → World → Prop) : Prop :=
  Bm (decide (p ≥ (0 : Int))) (
    Bm (decide (p < (3 : Int))) (
      Pn e fun a =>
      LdI .i64 a w fun x16 =>
      R (p != x16) w) (
      R false w)) (
    R false w)
theorem elect_Elect_peer.B0_eq (e : Option Addr) (p : Int) (w : World)   (R : Bool → World → Prop)  :
    (
  Bm (decide (p ≥ (0 : Int))) (
    Bm (decide (p < (3 : Int))) (
      Pn e fun a =>
      LdI .i64 a w fun x16 =>
      R (p != x16) w) (
      R false w)) (
    R false w)) = kstep Try.prog 19 Try.f65.results.toList (Try.f65.body.getD .skip) (elect_Elect_peer.RV R) (kvc Try.prog 19 Try.f65.results.toList (Try.f65.body.getD .skip) (elect_Elect_peer.RV R) [] 2000) [(0, [])] [(0, .pointer e), (1, .int .i64 p)] w := by kernel_rfl
theorem elect_Elect_peer.B0_sound {R : Bool → World → Prop}  (e : Option Addr) (p : Int) (w : World) (h : elect_Elect_peer.B0 e p w   R) :
    KW Try.prog 65 19 (elect_Elect_peer.RV R) ([(0, [])].map (toItem (Try.f65.body.getD .skip))) [(0, .pointer e), (1, .int .i64 p)] w := by
  exact block_spec Try.func65 Try.mixed stops_nil (Eq.mp (elect_Elect_peer.B0_eq e p w   R ) h)
theorem elect_Elect_peer.sound (e : Option Addr) (p : Int) (w : World) (R : Bool → World → Prop) (h : elect_Elect_peer.B0 e p w R) : elect_Elect_peer.Call e p w R := by
  have hc := calls_of_block (args := #[.pointer e, .int .i64 p]) Try.func65 (body := (Try.f65.body.getD .skip)) (by kernel_rfl) (by kernel_rfl) (args_slot _) (elect_Elect_peer.B0_sound e p w h)
  exact hc.mono fun e w' he => by
    obtain ⟨v, rfl, hv⟩ := he
    exact elect_Elect_peer.RV_elim hv
def elect_count.L1b (n w0 : Int) (w : World)  (N1 : Int → Int → World → Prop) (R : Int → World → Prop) : Prop :=
  Bm (decide (w0 > (0 : Int))) (
    0 ≤ (1 : Int) ∧
    N1 (IntKind.i64.wrap (n + (IntKind.i64.wrap (BitVec.ofInt IntKind.i64.bits w0 &&& BitVec.ofInt IntKind.i64.bits (1 : Int)).toNat))) (w0.fdiv (2 ^ (min (1 : Int).toNat IntKind.i64.bits))) w) (
    R n w)
theorem elect_count.L1b_eq (n w0 : Int) (w : World)  (N1 : Int → Int → World → Prop) (R : Int → World → Prop)  :
    (
  Bm (decide (w0 > (0 : Int))) (
    0 ≤ (1 : Int) ∧
    N1 (IntKind.i64.wrap (n + (IntKind.i64.wrap (BitVec.ofInt IntKind.i64.bits w0 &&& BitVec.ofInt IntKind.i64.bits (1 : Int)).toNat))) (w0.fdiv (2 ^ (min (1 : Int).toNat IntKind.i64.bits))) w) (
    R n w)) = kstep Try.prog 15 Try.f66.results.toList (Try.f66.body.getD .skip) (elect_count.RV R) (kvc Try.prog 15 Try.f66.results.toList (Try.f66.body.getD .skip) (elect_count.RV R) [([(0, [1, 1, 0, 1, 0, 0]), (2, [1, 1, 0, 1, 0, 0]), (1, [0]), (0, [1, 1, 1])], fun σ w => dI .i64 (slotOf σ 3) fun n_ => dI .i64 (slotOf σ 4) fun w0_ => N1 n_ w0_ w)] 2000) [(0, [1, 1, 0, 1, 0, 0]), (2, [1, 1, 0, 1, 0, 0]), (1, [0]), (0, [1, 1, 1])] [(3, .int .i64 n), (4, .int .i64 w0)] w := by kernel_rfl
theorem elect_count.L1b_sound {R : Int → World → Prop} {N1 : Int → Int → World → Prop} (hN1 : ∀ n w0 w, N1 n w0 w → KW Try.prog 66 15 (elect_count.RV R) ([(0, [1, 1, 0, 1, 0, 0]), (2, [1, 1, 0, 1, 0, 0]), (1, [0]), (0, [1, 1, 1])].map (toItem (Try.f66.body.getD .skip))) [(3, .int .i64 n), (4, .int .i64 w0)] w) (n w0 : Int) (w : World) (h : elect_count.L1b n w0 w  N1 R) :
    KW Try.prog 66 15 (elect_count.RV R) ([(0, [1, 1, 0, 1, 0, 0]), (2, [1, 1, 0, 1, 0, 0]), (1, [0]), (0, [1, 1, 1])].map (toItem (Try.f66.body.getD .skip))) [(3, .int .i64 n), (4, .int .i64 w0)] w := by
  exact block_spec Try.func66 Try.mixed (stops_cons (fun σ w h => by
      obtain ⟨n_, e0, h⟩ := dI_elim h
      obtain ⟨w0_, e1, h⟩ := dI_elim h
      exact (hN1 n_ w0_ w h).weaken (Sub.cons (Sub.cons (Sub.nil _) e1) e0)) stops_nil) (Eq.mp (elect_count.L1b_eq n w0 w  N1 R ) h)
def elect_count.L1 (n w0 : Int) (w : World)  (R : Int → World → Prop) : Prop :=
  ∃ (I : Nat → Int → Int → World → Prop) (m : Nat), I m n w0 w ∧ ∀ m n w0 w, I m n w0 w → elect_count.L1b n w0 w  (fun n' w0' w' => ∃ m', m' < m ∧ I m' n' w0' w') R
theorem elect_count.L1_sound {R : Int → World → Prop}  (n w0 : Int) (w : World) (h : elect_count.L1 n w0 w  R) :
    KW Try.prog 66 15 (elect_count.RV R) ([(0, [1, 1, 0, 1, 0, 0]), (2, [1, 1, 0, 1, 0, 0]), (1, [0]), (0, [1, 1, 1])].map (toItem (Try.f66.body.getD .skip))) [(3, .int .i64 n), (4, .int .i64 w0)] w := by
  obtain ⟨I, m, h0, hr⟩ := h
  refine KW.loop (fun m σ w => ∃ (n w0 : Int), σ = [(3, .int .i64 n), (4, .int .i64 w0)] ∧ I m n w0 w) ?_ m _ w ⟨n, w0, rfl, h0⟩
  rintro m ih σ w ⟨n, w0, rfl, hI⟩
  exact elect_count.L1b_sound  (N1 := fun n' w0' w' => ∃ m', m' < m ∧ I m' n' w0' w') (fun n' w0' w' hx => by obtain ⟨m', hlt, hI'⟩ := hx; exact ih m' hlt _ w' ⟨n', w0', rfl, hI'⟩) n w0 w (hr m n w0 w hI)
def elect_count.B0 (mask : Int) (w : World)   (R : Int → World → Prop) : Prop :=
  elect_count.L1 (0 : Int) mask w  R
theorem elect_count.B0_eq (mask : Int) (w : World)   (R : Int → World → Prop) (sL1 : Int → Int → World → Prop) :
    (
  sL1 (0 : Int) mask w) = kstep Try.prog 15 Try.f66.results.toList (Try.f66.body.getD .skip) (elect_count.RV R) (kvc Try.prog 15 Try.f66.results.toList (Try.f66.body.getD .skip) (elect_count.RV R) [([(0, [1, 1, 0, 1, 0, 0]), (2, [1, 1, 0, 1, 0, 0]), (1, [0]), (0, [1, 1, 1])], fun σ w => dI .i64 (slotOf σ 3) fun n_ => dI .i64 (slotOf σ 4) fun w0_ => sL1 n_ w0_ w)] 2000) [(0, [])] [(0, .int .i64 mask)] w := by kernel_rfl
theorem elect_count.B0_sound {R : Int → World → Prop}  (mask : Int) (w : World) (h : elect_count.B0 mask w   R) :
    KW Try.prog 66 15 (elect_count.RV R) ([(0, [])].map (toItem (Try.f66.body.getD .skip))) [(0, .int .i64 mask)] w := by
  exact block_spec Try.func66 Try.mixed (stops_cons (fun σ w h => by
      obtain ⟨n_, e0, h⟩ := dI_elim h
      obtain ⟨w0_, e1, h⟩ := dI_elim h
      exact (elect_count.L1_sound  n_ w0_ w h).weaken (Sub.cons (Sub.cons (Sub.nil _) e1) e0)) stops_nil) (Eq.mp (elect_count.B0_eq mask w   R (fun n_ w0_ w => elect_count.L1 n_ w0_ w  R)) h)
theorem elect_count.sound (mask : Int) (w : World) (R : Int → World → Prop) (h : elect_count.B0 mask w R) : elect_count.Call mask w R := by
  have hc := calls_of_block (args := #[.int .i64 mask]) Try.func66 (body := (Try.f66.body.getD .skip)) (by kernel_rfl) (by kernel_rfl) (args_slot _) (elect_count.B0_sound mask w h)
  exact hc.mono fun e w' he => by
    obtain ⟨v, rfl, hv⟩ := he
    exact elect_count.RV_elim hv
end Go.Proofs.Qxb6500428a
