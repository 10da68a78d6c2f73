import Derived.Test.Qxb6500432aSig
set_option maxRecDepth 100000
set_option linter.unusedVariables false
open Go.Vc
namespace Go.Proofs.Qxb6500432a
def store_Store_Meta.B0 (t : Option Addr) (w : World)   (R : Int → Int → World → Prop) : Prop :=
  Pn t fun a =>
  LdI .i64 ((a.add 15).add 2) w.drew fun x8 =>
  Pn t fun a_1 =>
  LdI .i64 ((a_1.add 15).add 3) w.drew fun x13 =>
  R x8 x13 w.drew
theorem store_Store_Meta.B0_eq (t : Option Addr) (w : World)   (R : Int → Int → World → Prop)  :
    (
  Pn t fun a =>
  LdI .i64 ((a.add 15).add 2) w.drew fun x8 =>
  Pn t fun a_1 =>
  LdI .i64 ((a_1.add 15).add 3) w.drew fun x13 =>
  R x8 x13 w.drew) = kstep Try.prog 14 Try.f11.results.toList (Try.f11.body.getD .skip) (store_Store_Meta.RV R) (kvc Try.prog 14 Try.f11.results.toList (Try.f11.body.getD .skip) (store_Store_Meta.RV R) [] 2000) [(0, [])] [(0, .pointer t)] w := by kernel_rfl
theorem store_Store_Meta.B0_sound {R : Int → Int → World → Prop}  (t : Option Addr) (w : World) (h : store_Store_Meta.B0 t w   R) :
    KW Try.prog 11 14 (store_Store_Meta.RV R) ([(0, [])].map (toItem (Try.f11.body.getD .skip))) [(0, .pointer t)] w := by
  exact block_spec Try.func11 Try.mixed stops_nil (Eq.mp (store_Store_Meta.B0_eq t w   R ) h)
theorem store_Store_Meta.sound (t : Option Addr) (w : World) (R : Int → Int → World → Prop) (h : store_Store_Meta.B0 t w R) : store_Store_Meta.Call t w R := by
  have hc := calls_of_block (args := #[.pointer t]) Try.func11 (body := (Try.f11.body.getD .skip)) (by kernel_rfl) (by kernel_rfl) (args_slot _) (store_Store_Meta.B0_sound t w h)
  exact hc.mono fun e w' he => by
    obtain ⟨v, rfl, hv⟩ := he
    exact store_Store_Meta.RV_elim hv
def store_Store_Snap.B0 (t : Option Addr) (w : World)   (R : Int → Int → ByteArray → World → Prop) : Prop :=
  Pn t fun a =>
  LdI .i64 ((a.add 20).add 2) w.drew fun x9 =>
  Pn t fun a_1 =>
  LdI .i64 ((a_1.add 20).add 3) w.drew fun x14 =>
  Pn t fun a_2 =>
  LdS (a_2.add 27) w.drew fun x18 =>
  R x9 x14 x18 w.drew
theorem store_Store_Snap.B0_eq (t : Option Addr) (w : World)   (R : Int → Int → ByteArray → World → Prop)  :
    (
  Pn t fun a =>
  LdI .i64 ((a.add 20).add 2) w.drew fun x9 =>
  Pn t fun a_1 =>
  LdI .i64 ((a_1.add 20).add 3) w.drew fun x14 =>
  Pn t fun a_2 =>
  LdS (a_2.add 27) w.drew fun x18 =>
  R x9 x14 x18 w.drew) = kstep Try.prog 19 Try.f12.results.toList (Try.f12.body.getD .skip) (store_Store_Snap.RV R) (kvc Try.prog 19 Try.f12.results.toList (Try.f12.body.getD .skip) (store_Store_Snap.RV R) [] 2000) [(0, [])] [(0, .pointer t)] w := by kernel_rfl
theorem store_Store_Snap.B0_sound {R : Int → Int → ByteArray → World → Prop}  (t : Option Addr) (w : World) (h : store_Store_Snap.B0 t w   R) :
    KW Try.prog 12 19 (store_Store_Snap.RV R) ([(0, [])].map (toItem (Try.f12.body.getD .skip))) [(0, .pointer t)] w := by
  exact block_spec Try.func12 Try.mixed stops_nil (Eq.mp (store_Store_Snap.B0_eq t w   R ) h)
theorem store_Store_Snap.sound (t : Option Addr) (w : World) (R : Int → Int → ByteArray → World → Prop) (h : store_Store_Snap.B0 t w R) : store_Store_Snap.Call t w R := by
  have hc := calls_of_block (args := #[.pointer t]) Try.func12 (body := (Try.f12.body.getD .skip)) (by kernel_rfl) (by kernel_rfl) (args_slot _) (store_Store_Snap.B0_sound t w h)
  exact hc.mono fun e w' he => by
    obtain ⟨v, rfl, hv⟩ := he
    exact store_Store_Snap.RV_elim hv
def store_Store_Rec.B1 (t : Option Addr) (slot : Int) (t4 : Nat) (t11 : Bool) (w : World)   (R : Int → Int → ByteArray → Int → World → Prop) : Prop :=
  Bm t11 (
    Sts [.int .i64 (0 : Int), .int .i64 (0 : Int), .string (ByteArray.mk #[])] ⟨t4, 0, none⟩ 0 w fun w1 =>
    LdI .i64 ⟨t4, 0, none⟩ w1 fun r_0 =>
    LdI .i64 ⟨t4, 1, none⟩ w1 fun r_1 =>
    LdS ⟨t4, 2, none⟩ w1 fun r_2 =>
    R r_0 r_1 r_2 (1 : Int) w1) (
    Pn t fun a =>
    (0 ≤ slot ∧ slot < ((6 : Nat) : Int)) ∧
    LdB (Addr.add (a.add 28) (slot.toNat * 1)) w fun x18 =>
    Bm (!x18) (
      Sts [.int .i64 (0 : Int), .int .i64 (0 : Int), .string (ByteArray.mk #[])] ⟨t4, 0, none⟩ 0 w fun w2 =>
      LdI .i64 ⟨t4, 0, none⟩ w2 fun r_0_1 =>
      LdI .i64 ⟨t4, 1, none⟩ w2 fun r_1_1 =>
      LdS ⟨t4, 2, none⟩ w2 fun r_2_1 =>
      R r_0_1 r_1_1 r_2_1 (2 : Int) w2) (
      Pn t fun a_1 =>
      (0 ≤ slot ∧ slot < ((6 : Nat) : Int)) ∧
      LdI .i64 (Addr.add (a_1.add 34) (slot.toNat * 3)) w fun x26_0 =>
      LdI .i64 ((Addr.add (a_1.add 34) (slot.toNat * 3)).add 1) w fun x26_1 =>
      LdS ((Addr.add (a_1.add 34) (slot.toNat * 3)).add 2) w fun x26_2 =>
      Sts [.int .i64 x26_0, .int .i64 x26_1, .string x26_2] ⟨t4, 0, none⟩ 0 w fun w3 =>
      LdI .i64 ⟨t4, 0, none⟩ w3 fun r_0_2 =>
      LdI .i64 ⟨t4, 1, none⟩ w3 fun r_1_2 =>
      LdS ⟨t4, 2, none⟩ w3 fun r_2_2 =>
      R r_0_2 r_1_2 r_2_2 (0 : Int) w3))
theorem store_Store_Rec.B1_eq (t : Option Addr) (slot : Int) (t4 : Nat) (t11 : Bool) (w : World)   (R : Int → Int → ByteArray → Int → World → Prop)  :
    (
  Bm t11 (
    Sts [.int .i64 (0 : Int), .int .i64 (0 : Int), .string (ByteArray.mk #[])] ⟨t4, 0, none⟩ 0 w fun w1 =>
    LdI .i64 ⟨t4, 0, none⟩ w1 fun r_0 =>
    LdI .i64 ⟨t4, 1, none⟩ w1 fun r_1 =>
    LdS ⟨t4, 2, none⟩ w1 fun r_2 =>
    R r_0 r_1 r_2 (1 : Int) w1) (
    Pn t fun a =>
    (0 ≤ slot ∧ slot < ((6 : Nat) : Int)) ∧
    LdB (Addr.add (a.add 28) (slot.toNat * 1)) w fun x18 =>
    Bm (!x18) (
      Sts [.int .i64 (0 : Int), .int .i64 (0 : Int), .string (ByteArray.mk #[])] ⟨t4, 0, none⟩ 0 w fun w2 =>
      LdI .i64 ⟨t4, 0, none⟩ w2 fun r_0_1 =>
      LdI .i64 ⟨t4, 1, none⟩ w2 fun r_1_1 =>
      LdS ⟨t4, 2, none⟩ w2 fun r_2_1 =>
      R r_0_1 r_1_1 r_2_1 (2 : Int) w2) (
      Pn t fun a_1 =>
      (0 ≤ slot ∧ slot < ((6 : Nat) : Int)) ∧
      LdI .i64 (Addr.add (a_1.add 34) (slot.toNat * 3)) w fun x26_0 =>
      LdI .i64 ((Addr.add (a_1.add 34) (slot.toNat * 3)).add 1) w fun x26_1 =>
      LdS ((Addr.add (a_1.add 34) (slot.toNat * 3)).add 2) w fun x26_2 =>
      Sts [.int .i64 x26_0, .int .i64 x26_1, .string x26_2] ⟨t4, 0, none⟩ 0 w fun w3 =>
      LdI .i64 ⟨t4, 0, none⟩ w3 fun r_0_2 =>
      LdI .i64 ⟨t4, 1, none⟩ w3 fun r_1_2 =>
      LdS ⟨t4, 2, none⟩ w3 fun r_2_2 =>
      R r_0_2 r_1_2 r_2_2 (0 : Int) w3))) = kstep Try.prog 27 Try.f13.results.toList (Try.f13.body.getD .skip) (store_Store_Rec.RV R) (kvc Try.prog 27 Try.f13.results.toList (Try.f13.body.getD .skip) (store_Store_Rec.RV R) [] 2000) [(0, [1, 0, 1]), (0, [1, 1])] [(0, .pointer t), (1, .int .i64 slot), (4, .pointer (some ⟨t4, 0, none⟩)), (11, .bool t11)] w := by kernel_rfl
theorem store_Store_Rec.B1_sound {R : Int → Int → ByteArray → Int → World → Prop}  (t : Option Addr) (slot : Int) (t4 : Nat) (t11 : Bool) (w : World) (h : store_Store_Rec.B1 t slot t4 t11 w   R) :
    KW Try.prog 13 27 (store_Store_Rec.RV R) ([(0, [1, 0, 1]), (0, [1, 1])].map (toItem (Try.f13.body.getD .skip))) [(0, .pointer t), (1, .int .i64 slot), (4, .pointer (some ⟨t4, 0, none⟩)), (11, .bool t11)] w := by
  exact block_spec Try.func13 Try.mixed stops_nil (Eq.mp (store_Store_Rec.B1_eq t slot t4 t11 w   R ) h)
def store_Store_Rec.B0 (t : Option Addr) (slot : Int) (w : World)   (R : Int → Int → ByteArray → Int → World → Prop) : Prop :=
  New (.cells #[.int .i64 (0 : Int), .int .i64 (0 : Int), .string (ByteArray.mk #[])] 38) w fun b4 w1 =>
  Bm (decide (slot < (0 : Int))) (
    store_Store_Rec.B1 t slot b4 true w1  R) (
    store_Store_Rec.B1 t slot b4 (decide (slot ≥ (6 : Int))) w1  R)
theorem store_Store_Rec.B0_eq (t : Option Addr) (slot : Int) (w : World)   (R : Int → Int → ByteArray → Int → World → Prop) (sB1 : Option Addr → Int → Nat → Bool → World → Prop) :
    (
  New (.cells #[.int .i64 (0 : Int), .int .i64 (0 : Int), .string (ByteArray.mk #[])] 38) w fun b4 w1 =>
  Bm (decide (slot < (0 : Int))) (
    sB1 t slot b4 true w1) (
    sB1 t slot b4 (decide (slot ≥ (6 : Int))) w1)) = kstep Try.prog 27 Try.f13.results.toList (Try.f13.body.getD .skip) (store_Store_Rec.RV R) (kvc Try.prog 27 Try.f13.results.toList (Try.f13.body.getD .skip) (store_Store_Rec.RV R) [([(0, [1, 0, 1]), (0, [1, 1])], fun σ w => dP (slotOf σ 0) fun t_ => dI .i64 (slotOf σ 1) fun slot_ => dK (slotOf σ 4) fun t4_ => dB (slotOf σ 11) fun t11_ => sB1 t_ slot_ t4_ t11_ w)] 2000) [(0, [])] [(0, .pointer t), (1, .int .i64 slot)] w := by kernel_rfl
theorem store_Store_Rec.B0_sound {R : Int → Int → ByteArray → Int → World → Prop}  (t : Option Addr) (slot : Int) (w : World) (h : store_Store_Rec.B0 t slot w   R) :
    KW Try.prog 13 27 (store_Store_Rec.RV R) ([(0, [])].map (toItem (Try.f13.body.getD .skip))) [(0, .pointer t), (1, .int .i64 slot)] w := by
  exact block_spec Try.func13 Try.mixed (stops_cons (fun σ w h => by
      obtain ⟨t_, e0, h⟩ := dP_elim h
      obtain ⟨slot_, e1, h⟩ := dI_elim h
      obtain ⟨t4_, e2, h⟩ := dK_elim h
      obtain ⟨t11_, e3, h⟩ := dB_elim h
      exact (store_Store_Rec.B1_sound  t_ slot_ t4_ t11_ w h).weaken (Sub.cons (Sub.cons (Sub.cons (Sub.cons (Sub.nil _) e3) e2) e1) e0)) stops_nil) (Eq.mp (store_Store_Rec.B0_eq t slot w   R (fun t_ slot_ t4_ t11_ w => store_Store_Rec.B1 t_ slot_ t4_ t11_ w  R)) h)
theorem store_Store_Rec.sound (t : Option Addr) (slot : Int) (w : World) (R : Int → Int → ByteArray → Int → World → Prop) (h : store_Store_Rec.B0 t slot w R) : store_Store_Rec.Call t slot w R := by
  have hc := calls_of_block (args := #[.pointer t, .int .i64 slot]) Try.func13 (body := (Try.f13.body.getD .skip)) (by kernel_rfl) (by kernel_rfl) (args_slot _) (store_Store_Rec.B0_sound t slot w h)
  exact hc.mono fun e w' he => by
    obtain ⟨v, rfl, hv⟩ := he
    exact store_Store_Rec.RV_elim hv
def store_Store_Check.B3 (t c : Option Addr) (s : Int) (t151 : Bool) (w : World) (N2 : Option Addr → Option Addr → Int → World → Prop)  (R : ByteArray → World → Prop) : Prop :=
  Bm t151 (
    R (ByteArray.mk #[97, 32, 99, 97, 99, 104, 101, 100, 32, 114, 101, 99, 111, 114, 100, 32, 105, 115, 32, 110, 111, 116, 32, 119, 104, 97, 116, 32, 116, 104, 101, 32, 100, 105, 115, 107, 32, 104, 111, 108, 100, 115]) w) (
    N2 t c (IntKind.i64.wrap (s + (1 : Int))) w)
theorem store_Store_Check.B3_eq (t c : Option Addr) (s : Int) (t151 : Bool) (w : World) (N2 : Option Addr → Option Addr → Int → World → Prop)  (R : ByteArray → World → Prop)  :
    (
  Bm t151 (
    R (ByteArray.mk #[97, 32, 99, 97, 99, 104, 101, 100, 32, 114, 101, 99, 111, 114, 100, 32, 105, 115, 32, 110, 111, 116, 32, 119, 104, 97, 116, 32, 116, 104, 101, 32, 100, 105, 115, 107, 32, 104, 111, 108, 100, 115]) w) (
    N2 t c (IntKind.i64.wrap (s + (1 : Int))) w)) = kstep Try.prog 206 Try.f14.results.toList (Try.f14.body.getD .skip) (store_Store_Check.RV R) (kvc Try.prog 206 Try.f14.results.toList (Try.f14.body.getD .skip) (store_Store_Check.RV R) [([(0, [1, 1, 1, 1, 1, 0, 1, 0, 0]), (2, [1, 1, 1, 1, 1, 0, 1, 0, 0]), (1, [2]), (0, [1, 1, 1, 1, 1, 1])], fun σ w => dP (slotOf σ 0) fun t_ => dP (slotOf σ 3) fun c_ => dI .i64 (slotOf σ 5) fun s_ => N2 t_ c_ s_ w)] 2000) [(0, [1, 1, 1, 1, 1, 0, 1, 0, 0, 1, 0, 0, 1]), (1, [3]), (0, [1, 1, 1, 1, 1, 0, 1, 0, 0, 1, 1]), (2, [1, 1, 1, 1, 1, 0, 1, 0, 0]), (1, [2]), (0, [1, 1, 1, 1, 1, 1])] [(0, .pointer t), (3, .pointer c), (5, .int .i64 s), (151, .bool t151)] w := by kernel_rfl
theorem store_Store_Check.B3_sound {R : ByteArray → World → Prop} {N2 : Option Addr → Option Addr → Int → World → Prop} (hN2 : ∀ t c s w, N2 t c s w → KW Try.prog 14 206 (store_Store_Check.RV R) ([(0, [1, 1, 1, 1, 1, 0, 1, 0, 0]), (2, [1, 1, 1, 1, 1, 0, 1, 0, 0]), (1, [2]), (0, [1, 1, 1, 1, 1, 1])].map (toItem (Try.f14.body.getD .skip))) [(0, .pointer t), (3, .pointer c), (5, .int .i64 s)] w) (t c : Option Addr) (s : Int) (t151 : Bool) (w : World) (h : store_Store_Check.B3 t c s t151 w N2  R) :
    KW Try.prog 14 206 (store_Store_Check.RV R) ([(0, [1, 1, 1, 1, 1, 0, 1, 0, 0, 1, 0, 0, 1]), (1, [3]), (0, [1, 1, 1, 1, 1, 0, 1, 0, 0, 1, 1]), (2, [1, 1, 1, 1, 1, 0, 1, 0, 0]), (1, [2]), (0, [1, 1, 1, 1, 1, 1])].map (toItem (Try.f14.body.getD .skip))) [(0, .pointer t), (3, .pointer c), (5, .int .i64 s), (151, .bool t151)] w := by
  exact block_spec Try.func14 Try.mixed (stops_cons (fun σ w h => by
      obtain ⟨t_, e0, h⟩ := dP_elim h
      obtain ⟨c_, e1, h⟩ := dP_elim h
      obtain ⟨s_, e2, h⟩ := dI_elim h
      exact (hN2 t_ c_ s_ w h).weaken (Sub.cons (Sub.cons (Sub.cons (Sub.nil _) e2) e1) e0)) stops_nil) (Eq.mp (store_Store_Check.B3_eq t c s t151 w N2  R ) h)
def store_Store_Check.B5 (t205 : Bool) (w : World)   (R : ByteArray → World → Prop) : Prop :=
  Bm t205 (
    R (ByteArray.mk #[116, 104, 101, 32, 111, 116, 104, 101, 114, 32, 104, 101, 97, 100, 32, 105, 115, 32, 119, 104, 111, 108, 101, 32, 97, 110, 100, 32, 110, 111, 116, 32, 116, 104, 101, 32, 111, 110, 101, 32, 98, 101, 102, 111, 114, 101, 44, 32, 111, 114, 32, 110, 97, 109, 101, 115, 32, 116, 104, 101, 32, 97, 114, 101, 97, 32, 105, 110, 32, 117, 115, 101]) w) (
    R (ByteArray.mk #[]) w)
theorem store_Store_Check.B5_eq (t205 : Bool) (w : World)   (R : ByteArray → World → Prop)  :
    (
  Bm t205 (
    R (ByteArray.mk #[116, 104, 101, 32, 111, 116, 104, 101, 114, 32, 104, 101, 97, 100, 32, 105, 115, 32, 119, 104, 111, 108, 101, 32, 97, 110, 100, 32, 110, 111, 116, 32, 116, 104, 101, 32, 111, 110, 101, 32, 98, 101, 102, 111, 114, 101, 44, 32, 111, 114, 32, 110, 97, 109, 101, 115, 32, 116, 104, 101, 32, 97, 114, 101, 97, 32, 105, 110, 32, 117, 115, 101]) w) (
    R (ByteArray.mk #[]) w)) = kstep Try.prog 206 Try.f14.results.toList (Try.f14.body.getD .skip) (store_Store_Check.RV R) (kvc Try.prog 206 Try.f14.results.toList (Try.f14.body.getD .skip) (store_Store_Check.RV R) [] 2000) [(0, [1, 1, 1, 1, 1, 1, 1, 1, 1, 1, 1, 0, 1]), (0, [1, 1, 1, 1, 1, 1, 1, 1, 1, 1, 1, 1])] [(205, .bool t205)] w := by kernel_rfl
theorem store_Store_Check.B5_sound {R : ByteArray → World → Prop}  (t205 : Bool) (w : World) (h : store_Store_Check.B5 t205 w   R) :
    KW Try.prog 14 206 (store_Store_Check.RV R) ([(0, [1, 1, 1, 1, 1, 1, 1, 1, 1, 1, 1, 0, 1]), (0, [1, 1, 1, 1, 1, 1, 1, 1, 1, 1, 1, 1])].map (toItem (Try.f14.body.getD .skip))) [(205, .bool t205)] w := by
  exact block_spec Try.func14 Try.mixed stops_nil (Eq.mp (store_Store_Check.B5_eq t205 w   R ) h)
def store_Store_Check.B4 (t : Option Addr) (t173 : Bool) (w : World)   (R : ByteArray → World → Prop) : Prop :=
  Bm t173 (
    R (ByteArray.mk #[116, 104, 101, 32, 111, 116, 104, 101, 114, 32, 109, 101, 116, 97, 32, 115, 108, 111, 116, 32, 105, 115, 32, 119, 104, 111, 108, 101, 32, 97, 110, 100, 32, 110, 111, 116, 32, 116, 104, 101, 32, 111, 110, 101, 32, 98, 101, 102, 111, 114, 101]) w) (
    Pn t fun a =>
    LdI .i64 (a.add 26) w fun x178 =>
    store_Store_read.Call t (IntKind.i64.wrap ((3 : Int) - x178)) w fun r180 w1 =>
    store_decHead.Call r180 w1 fun r182_0 r182_1 r182_2 r182_3 r182_4 r182_5 w2 =>
    New (.cells #[.bool false, .int .i64 (0 : Int), .int .i64 (0 : Int), .int .i64 (0 : Int), .int .i64 (0 : Int), .int .i64 (0 : Int)] 54) w2 fun p_ w3 =>
    Sts [.bool r182_0, .int .i64 r182_1, .int .i64 r182_2, .int .i64 r182_3, .int .i64 r182_4, .int .i64 r182_5] ⟨p_, 0, none⟩ 0 w3 fun w4 =>
    LdB ⟨p_, 0, none⟩ w4.drew fun x184 =>
    Bm x184 (
      LdI .i64 ⟨p_, 1, none⟩ w4.drew fun x187 =>
      Pn t fun a_1 =>
      LdI .i64 ((a_1.add 20).add 1) w4.drew fun x192 =>
      Bm (x187 != (IntKind.i64.wrap (x192 - (1 : Int)))) (
        store_Store_Check.B5 true w4.drew  R) (
        LdI .i64 ⟨p_, 4, none⟩ w4.drew fun x197 =>
        Pn t fun a_2 =>
        LdI .i64 ((a_2.add 20).add 4) w4.drew fun x202 =>
        store_Store_Check.B5 (x197 == x202) w4.drew  R)) (
      store_Store_Check.B5 false w4.drew  R))
theorem store_Store_Check.B4_eq (t : Option Addr) (t173 : Bool) (w : World)   (R : ByteArray → World → Prop) (sB5 : Bool → World → Prop) :
    (
  Bm t173 (
    R (ByteArray.mk #[116, 104, 101, 32, 111, 116, 104, 101, 114, 32, 109, 101, 116, 97, 32, 115, 108, 111, 116, 32, 105, 115, 32, 119, 104, 111, 108, 101, 32, 97, 110, 100, 32, 110, 111, 116, 32, 116, 104, 101, 32, 111, 110, 101, 32, 98, 101, 102, 111, 114, 101]) w) (
    Pn t fun a =>
    LdI .i64 (a.add 26) w fun x178 =>
    store_Store_read.Call t (IntKind.i64.wrap ((3 : Int) - x178)) w fun r180 w1 =>
    store_decHead.Call r180 w1 fun r182_0 r182_1 r182_2 r182_3 r182_4 r182_5 w2 =>
    New (.cells #[.bool false, .int .i64 (0 : Int), .int .i64 (0 : Int), .int .i64 (0 : Int), .int .i64 (0 : Int), .int .i64 (0 : Int)] 54) w2 fun p_ w3 =>
    Sts [.bool r182_0, .int .i64 r182_1, .int .i64 r182_2, .int .i64 r182_3, .int .i64 r182_4, .int .i64 r182_5] ⟨p_, 0, none⟩ 0 w3 fun w4 =>
    LdB ⟨p_, 0, none⟩ w4.drew fun x184 =>
    Bm x184 (
      LdI .i64 ⟨p_, 1, none⟩ w4.drew fun x187 =>
      Pn t fun a_1 =>
      LdI .i64 ((a_1.add 20).add 1) w4.drew fun x192 =>
      Bm (x187 != (IntKind.i64.wrap (x192 - (1 : Int)))) (
        sB5 true w4.drew) (
        LdI .i64 ⟨p_, 4, none⟩ w4.drew fun x197 =>
        Pn t fun a_2 =>
        LdI .i64 ((a_2.add 20).add 4) w4.drew fun x202 =>
        sB5 (x197 == x202) w4.drew)) (
      sB5 false w4.drew))) = kstep Try.prog 206 Try.f14.results.toList (Try.f14.body.getD .skip) (store_Store_Check.RV R) (kvc Try.prog 206 Try.f14.results.toList (Try.f14.body.getD .skip) (store_Store_Check.RV R) [([(0, [1, 1, 1, 1, 1, 1, 1, 1, 1, 1, 1, 0, 1]), (0, [1, 1, 1, 1, 1, 1, 1, 1, 1, 1, 1, 1])], fun σ w => dB (slotOf σ 205) fun t205_ => sB5 t205_ w)] 2000) [(0, [1, 1, 1, 1, 1, 1, 1, 1, 0, 1]), (0, [1, 1, 1, 1, 1, 1, 1, 1, 1])] [(0, .pointer t), (173, .bool t173)] w := by kernel_rfl
theorem store_Store_Check.B4_sound {R : ByteArray → World → Prop}  (t : Option Addr) (t173 : Bool) (w : World) (h : store_Store_Check.B4 t t173 w   R) :
    KW Try.prog 14 206 (store_Store_Check.RV R) ([(0, [1, 1, 1, 1, 1, 1, 1, 1, 0, 1]), (0, [1, 1, 1, 1, 1, 1, 1, 1, 1])].map (toItem (Try.f14.body.getD .skip))) [(0, .pointer t), (173, .bool t173)] w := by
  exact block_spec Try.func14 Try.mixed (stops_cons (fun σ w h => by
      obtain ⟨t205_, e0, h⟩ := dB_elim h
      exact (store_Store_Check.B5_sound  t205_ w h).weaken (Sub.cons (Sub.nil _) e0)) stops_nil) (Eq.mp (store_Store_Check.B4_eq t t173 w   R (fun t205_ w => store_Store_Check.B5 t205_ w  R)) h)
def store_Store_Check.L2b (t c : Option Addr) (s : Int) (w : World)  (N2 : Option Addr → Option Addr → Int → World → Prop) (R : ByteArray → World → Prop) : Prop :=
  Bm (decide (s < (6 : Int))) (
    Pn c fun a =>
    (0 ≤ s ∧ s < ((6 : Nat) : Int)) ∧
    LdB (Addr.add (a.add 28) (s.toNat * 1)) w.drew fun x93 =>
    Pn t fun a_1 =>
    (0 ≤ s ∧ s < ((6 : Nat) : Int)) ∧
    LdB (Addr.add (a_1.add 28) (s.toNat * 1)) w.drew fun x99 =>
    Bm (!(x93 == x99)) (
      store_Store_Check.B3 t c s true w.drew N2 R) (
      Pn c fun a_2 =>
      (0 ≤ s ∧ s < ((6 : Nat) : Int)) ∧
      LdI .i64 (Addr.add (a_2.add 34) (s.toNat * 3)) w.drew fun x108 =>
      Pn t fun a_3 =>
      (0 ≤ s ∧ s < ((6 : Nat) : Int)) ∧
      LdI .i64 (Addr.add (a_3.add 34) (s.toNat * 3)) w.drew fun x115 =>
      Bm (x108 != x115) (
        store_Store_Check.B3 t c s true w.drew N2 R) (
        Pn c fun a_4 =>
        (0 ≤ s ∧ s < ((6 : Nat) : Int)) ∧
        LdI .i64 ((Addr.add (a_4.add 34) (s.toNat * 3)).add 1) w.drew fun x125 =>
        Pn t fun a_5 =>
        (0 ≤ s ∧ s < ((6 : Nat) : Int)) ∧
        LdI .i64 ((Addr.add (a_5.add 34) (s.toNat * 3)).add 1) w.drew fun x132 =>
        Bm (x125 != x132) (
          store_Store_Check.B3 t c s true w.drew N2 R) (
          Pn c fun a_6 =>
          (0 ≤ s ∧ s < ((6 : Nat) : Int)) ∧
          LdS ((Addr.add (a_6.add 34) (s.toNat * 3)).add 2) w.drew fun x142 =>
          Pn t fun a_7 =>
          (0 ≤ s ∧ s < ((6 : Nat) : Int)) ∧
          LdS ((Addr.add (a_7.add 34) (s.toNat * 3)).add 2) w.drew fun x149 =>
          store_Store_Check.B3 t c s (!(x142.toList == x149.toList)) w.drew N2 R)))) (
    Pn t fun a_8 =>
    LdI .i64 (a_8.add 19) w fun x156 =>
    store_Store_read.Call t (IntKind.i64.wrap ((1 : Int) - x156)) w fun r158 w1 =>
    store_decMeta.Call r158 w1 fun r160_0 r160_1 r160_2 r160_3 w2 =>
    New (.cells #[.bool false, .int .i64 (0 : Int), .int .i64 (0 : Int), .int .i64 (0 : Int)] 52) w2 fun o_ w3 =>
    Sts [.bool r160_0, .int .i64 r160_1, .int .i64 r160_2, .int .i64 r160_3] ⟨o_, 0, none⟩ 0 w3 fun w4 =>
    LdB ⟨o_, 0, none⟩ w4.drew fun x162 =>
    Bm x162 (
      LdI .i64 ⟨o_, 1, none⟩ w4.drew fun x165 =>
      Pn t fun a_9 =>
      LdI .i64 ((a_9.add 15).add 1) w4.drew fun x170 =>
      store_Store_Check.B4 t (x165 != (IntKind.i64.wrap (x170 - (1 : Int)))) w4.drew  R) (
      store_Store_Check.B4 t false w4.drew  R))
theorem store_Store_Check.L2b_eq (t c : Option Addr) (s : Int) (w : World)  (N2 : Option Addr → Option Addr → Int → World → Prop) (R : ByteArray → World → Prop) (sB3 : Option Addr → Option Addr → Int → Bool → World → Prop) (sB4 : Option Addr → Bool → World → Prop) :
    (
  Bm (decide (s < (6 : Int))) (
    Pn c fun a =>
    (0 ≤ s ∧ s < ((6 : Nat) : Int)) ∧
    LdB (Addr.add (a.add 28) (s.toNat * 1)) w.drew fun x93 =>
    Pn t fun a_1 =>
    (0 ≤ s ∧ s < ((6 : Nat) : Int)) ∧
    LdB (Addr.add (a_1.add 28) (s.toNat * 1)) w.drew fun x99 =>
    Bm (!(x93 == x99)) (
      sB3 t c s true w.drew) (
      Pn c fun a_2 =>
      (0 ≤ s ∧ s < ((6 : Nat) : Int)) ∧
      LdI .i64 (Addr.add (a_2.add 34) (s.toNat * 3)) w.drew fun x108 =>
      Pn t fun a_3 =>
      (0 ≤ s ∧ s < ((6 : Nat) : Int)) ∧
      LdI .i64 (Addr.add (a_3.add 34) (s.toNat * 3)) w.drew fun x115 =>
      Bm (x108 != x115) (
        sB3 t c s true w.drew) (
        Pn c fun a_4 =>
        (0 ≤ s ∧ s < ((6 : Nat) : Int)) ∧
        LdI .i64 ((Addr.add (a_4.add 34) (s.toNat * 3)).add 1) w.drew fun x125 =>
        Pn t fun a_5 =>
        (0 ≤ s ∧ s < ((6 : Nat) : Int)) ∧
        LdI .i64 ((Addr.add (a_5.add 34) (s.toNat * 3)).add 1) w.drew fun x132 =>
        Bm (x125 != x132) (
          sB3 t c s true w.drew) (
          Pn c fun a_6 =>
          (0 ≤ s ∧ s < ((6 : Nat) : Int)) ∧
          LdS ((Addr.add (a_6.add 34) (s.toNat * 3)).add 2) w.drew fun x142 =>
          Pn t fun a_7 =>
          (0 ≤ s ∧ s < ((6 : Nat) : Int)) ∧
          LdS ((Addr.add (a_7.add 34) (s.toNat * 3)).add 2) w.drew fun x149 =>
          sB3 t c s (!(x142.toList == x149.toList)) w.drew)))) (
    Pn t fun a_8 =>
    LdI .i64 (a_8.add 19) w fun x156 =>
    store_Store_read.Call t (IntKind.i64.wrap ((1 : Int) - x156)) w fun r158 w1 =>
    store_decMeta.Call r158 w1 fun r160_0 r160_1 r160_2 r160_3 w2 =>
    New (.cells #[.bool false, .int .i64 (0 : Int), .int .i64 (0 : Int), .int .i64 (0 : Int)] 52) w2 fun o_ w3 =>
    Sts [.bool r160_0, .int .i64 r160_1, .int .i64 r160_2, .int .i64 r160_3] ⟨o_, 0, none⟩ 0 w3 fun w4 =>
    LdB ⟨o_, 0, none⟩ w4.drew fun x162 =>
    Bm x162 (
      LdI .i64 ⟨o_, 1, none⟩ w4.drew fun x165 =>
      Pn t fun a_9 =>
      LdI .i64 ((a_9.add 15).add 1) w4.drew fun x170 =>
      sB4 t (x165 != (IntKind.i64.wrap (x170 - (1 : Int)))) w4.drew) (
      sB4 t false w4.drew))) = kstep Try.prog 206 Try.f14.results.toList (Try.f14.body.getD .skip) (store_Store_Check.RV R) (kvc Try.prog 206 Try.f14.results.toList (Try.f14.body.getD .skip) (store_Store_Check.RV R) [([(0, [1, 1, 1, 1, 1, 0, 1, 0, 0, 1, 0, 0, 1]), (1, [3]), (0, [1, 1, 1, 1, 1, 0, 1, 0, 0, 1, 1]), (2, [1, 1, 1, 1, 1, 0, 1, 0, 0]), (1, [2]), (0, [1, 1, 1, 1, 1, 1])], fun σ w => dP (slotOf σ 0) fun t_ => dP (slotOf σ 3) fun c_ => dI .i64 (slotOf σ 5) fun s_ => dB (slotOf σ 151) fun t151_ => sB3 t_ c_ s_ t151_ w),
    ([(0, [1, 1, 1, 1, 1, 1, 1, 1, 0, 1]), (0, [1, 1, 1, 1, 1, 1, 1, 1, 1])], fun σ w => dP (slotOf σ 0) fun t_ => dB (slotOf σ 173) fun t173_ => sB4 t_ t173_ w)] 2000) [(0, [1, 1, 1, 1, 1, 0, 1, 0, 0]), (2, [1, 1, 1, 1, 1, 0, 1, 0, 0]), (1, [2]), (0, [1, 1, 1, 1, 1, 1])] [(0, .pointer t), (3, .pointer c), (5, .int .i64 s)] w := by kernel_rfl
theorem store_Store_Check.L2b_sound {R : ByteArray → World → Prop} {N2 : Option Addr → Option Addr → Int → World → Prop} (hN2 : ∀ t c s w, N2 t c s w → KW Try.prog 14 206 (store_Store_Check.RV R) ([(0, [1, 1, 1, 1, 1, 0, 1, 0, 0]), (2, [1, 1, 1, 1, 1, 0, 1, 0, 0]), (1, [2]), (0, [1, 1, 1, 1, 1, 1])].map (toItem (Try.f14.body.getD .skip))) [(0, .pointer t), (3, .pointer c), (5, .int .i64 s)] w) (t c : Option Addr) (s : Int) (w : World) (h : store_Store_Check.L2b t c s w  N2 R) :
    KW Try.prog 14 206 (store_Store_Check.RV R) ([(0, [1, 1, 1, 1, 1, 0, 1, 0, 0]), (2, [1, 1, 1, 1, 1, 0, 1, 0, 0]), (1, [2]), (0, [1, 1, 1, 1, 1, 1])].map (toItem (Try.f14.body.getD .skip))) [(0, .pointer t), (3, .pointer c), (5, .int .i64 s)] w := by
  exact block_spec Try.func14 Try.mixed (stops_cons (fun σ w h => by
      obtain ⟨t_, e0, h⟩ := dP_elim h
      obtain ⟨c_, e1, h⟩ := dP_elim h
      obtain ⟨s_, e2, h⟩ := dI_elim h
      obtain ⟨t151_, e3, h⟩ := dB_elim h
      exact (store_Store_Check.B3_sound hN2 t_ c_ s_ t151_ w h).weaken (Sub.cons (Sub.cons (Sub.cons (Sub.cons (Sub.nil _) e3) e2) e1) e0)) (stops_cons (fun σ w h => by
      obtain ⟨t_, e0, h⟩ := dP_elim h
      obtain ⟨t173_, e1, h⟩ := dB_elim h
      exact (store_Store_Check.B4_sound  t_ t173_ w h).weaken (Sub.cons (Sub.cons (Sub.nil _) e1) e0)) stops_nil)) (Eq.mp (store_Store_Check.L2b_eq t c s w  N2 R (fun t_ c_ s_ t151_ w => store_Store_Check.B3 t_ c_ s_ t151_ w N2 R) (fun t_ t173_ w => store_Store_Check.B4 t_ t173_ w  R)) h)
def store_Store_Check.L2 (t c : Option Addr) (s : Int) (w : World)  (R : ByteArray → World → Prop) : Prop :=
  ∃ (I : Nat → Option Addr → Option Addr → Int → World → Prop) (m : Nat), I m t c s w ∧ ∀ m t c s w, I m t c s w → store_Store_Check.L2b t c s w  (fun t' c' s' w' => ∃ m', m' < m ∧ I m' t' c' s' w') R
theorem store_Store_Check.L2_sound {R : ByteArray → World → Prop}  (t c : Option Addr) (s : Int) (w : World) (h : store_Store_Check.L2 t c s w  R) :
    KW Try.prog 14 206 (store_Store_Check.RV R) ([(0, [1, 1, 1, 1, 1, 0, 1, 0, 0]), (2, [1, 1, 1, 1, 1, 0, 1, 0, 0]), (1, [2]), (0, [1, 1, 1, 1, 1, 1])].map (toItem (Try.f14.body.getD .skip))) [(0, .pointer t), (3, .pointer c), (5, .int .i64 s)] w := by
  obtain ⟨I, m, h0, hr⟩ := h
  refine KW.loop (fun m σ w => ∃ (t c : Option Addr) (s : Int), σ = [(0, .pointer t), (3, .pointer c), (5, .int .i64 s)] ∧ I m t c s w) ?_ m _ w ⟨t, c, s, rfl, h0⟩
  rintro m ih σ w ⟨t, c, s, rfl, hI⟩
  exact store_Store_Check.L2b_sound  (N2 := fun t' c' s' w' => ∃ m', m' < m ∧ I m' t' c' s' w') (fun t' c' s' w' hx => by obtain ⟨m', hlt, hI'⟩ := hx; exact ih m' hlt _ w' ⟨t', c', s', rfl, hI'⟩) t c s w (hr m t c s w hI)
def store_Store_Check.B2 (t c : Option Addr) (t83 : Bool) (w : World)   (R : ByteArray → World → Prop) : Prop :=
  Bm t83 (
    R (ByteArray.mk #[116, 104, 101, 32, 99, 97, 99, 104, 101, 100, 32, 115, 110, 97, 112, 115, 104, 111, 116, 32, 105, 115, 32, 110, 111, 116, 32, 119, 104, 97, 116, 32, 116, 104, 101, 32, 100, 105, 115, 107, 32, 104, 111, 108, 100, 115]) w) (
    store_Store_Check.L2 t c (0 : Int) w  R)
theorem store_Store_Check.B2_eq (t c : Option Addr) (t83 : Bool) (w : World)   (R : ByteArray → World → Prop) (sL2 : Option Addr → Option Addr → Int → World → Prop) :
    (
  Bm t83 (
    R (ByteArray.mk #[116, 104, 101, 32, 99, 97, 99, 104, 101, 100, 32, 115, 110, 97, 112, 115, 104, 111, 116, 32, 105, 115, 32, 110, 111, 116, 32, 119, 104, 97, 116, 32, 116, 104, 101, 32, 100, 105, 115, 107, 32, 104, 111, 108, 100, 115]) w) (
    sL2 t c (0 : Int) w)) = kstep Try.prog 206 Try.f14.results.toList (Try.f14.body.getD .skip) (store_Store_Check.RV R) (kvc Try.prog 206 Try.f14.results.toList (Try.f14.body.getD .skip) (store_Store_Check.RV R) [([(0, [1, 1, 1, 1, 1, 0, 1, 0, 0]), (2, [1, 1, 1, 1, 1, 0, 1, 0, 0]), (1, [2]), (0, [1, 1, 1, 1, 1, 1])], fun σ w => dP (slotOf σ 0) fun t_ => dP (slotOf σ 3) fun c_ => dI .i64 (slotOf σ 5) fun s_ => sL2 t_ c_ s_ w)] 2000) [(0, [1, 1, 1, 1, 0, 1]), (0, [1, 1, 1, 1, 1])] [(0, .pointer t), (3, .pointer c), (83, .bool t83)] w := by kernel_rfl
theorem store_Store_Check.B2_sound {R : ByteArray → World → Prop}  (t c : Option Addr) (t83 : Bool) (w : World) (h : store_Store_Check.B2 t c t83 w   R) :
    KW Try.prog 14 206 (store_Store_Check.RV R) ([(0, [1, 1, 1, 1, 0, 1]), (0, [1, 1, 1, 1, 1])].map (toItem (Try.f14.body.getD .skip))) [(0, .pointer t), (3, .pointer c), (83, .bool t83)] w := by
  exact block_spec Try.func14 Try.mixed (stops_cons (fun σ w h => by
      obtain ⟨t_, e0, h⟩ := dP_elim h
      obtain ⟨c_, e1, h⟩ := dP_elim h
      obtain ⟨s_, e2, h⟩ := dI_elim h
      exact (store_Store_Check.L2_sound  t_ c_ s_ w h).weaken (Sub.cons (Sub.cons (Sub.cons (Sub.nil _) e2) e1) e0)) stops_nil) (Eq.mp (store_Store_Check.B2_eq t c t83 w   R (fun t_ c_ s_ w => store_Store_Check.L2 t_ c_ s_ w  R)) h)
def store_Store_Check.B1 (t c : Option Addr) (t51 : Bool) (w : World)   (R : ByteArray → World → Prop) : Prop :=
  Bm t51 (
    R (ByteArray.mk #[116, 104, 101, 32, 99, 97, 99, 104, 101, 100, 32, 109, 101, 116, 97, 32, 112, 97, 105, 114, 32, 105, 115, 32, 110, 111, 116, 32, 119, 104, 97, 116, 32, 116, 104, 101, 32, 100, 105, 115, 107, 32, 104, 111, 108, 100, 115]) w) (
    Pn c fun a =>
    LdB (a.add 20) w.drew fun x55_0 =>
    LdI .i64 ((a.add 20).add 1) w.drew fun x55_1 =>
    LdI .i64 ((a.add 20).add 2) w.drew fun x55_2 =>
    LdI .i64 ((a.add 20).add 3) w.drew fun x55_3 =>
    LdI .i64 ((a.add 20).add 4) w.drew fun x55_4 =>
    LdI .i64 ((a.add 20).add 5) w.drew fun x55_5 =>
    Pn t fun a_1 =>
    LdB (a_1.add 20) w.drew fun x59_0 =>
    LdI .i64 ((a_1.add 20).add 1) w.drew fun x59_1 =>
    LdI .i64 ((a_1.add 20).add 2) w.drew fun x59_2 =>
    LdI .i64 ((a_1.add 20).add 3) w.drew fun x59_3 =>
    LdI .i64 ((a_1.add 20).add 4) w.drew fun x59_4 =>
    LdI .i64 ((a_1.add 20).add 5) w.drew fun x59_5 =>
    store_sameHead.Call x55_0 x55_1 x55_2 x55_3 x55_4 x55_5 x59_0 x59_1 x59_2 x59_3 x59_4 x59_5 w.drew fun r60 w1 =>
    Bm (!r60) (
      store_Store_Check.B2 t c true w1  R) (
      Pn c fun a_2 =>
      LdI .i64 (a_2.add 26) w1 fun x66 =>
      Pn t fun a_3 =>
      LdI .i64 (a_3.add 26) w1 fun x70 =>
      Bm (x66 != x70) (
        store_Store_Check.B2 t c true w1  R) (
        Pn c fun a_4 =>
        LdS (a_4.add 27) w1 fun x77 =>
        Pn t fun a_5 =>
        LdS (a_5.add 27) w1 fun x81 =>
        store_Store_Check.B2 t c (!(x77.toList == x81.toList)) w1  R)))
theorem store_Store_Check.B1_eq (t c : Option Addr) (t51 : Bool) (w : World)   (R : ByteArray → World → Prop) (sB2 : Option Addr → Option Addr → Bool → World → Prop) :
    (
  Bm t51 (
    R (ByteArray.mk #[116, 104, 101, 32, 99, 97, 99, 104, 101, 100, 32, 109, 101, 116, 97, 32, 112, 97, 105, 114, 32, 105, 115, 32, 110, 111, 116, 32, 119, 104, 97, 116, 32, 116, 104, 101, 32, 100, 105, 115, 107, 32, 104, 111, 108, 100, 115]) w) (
    Pn c fun a =>
    LdB (a.add 20) w.drew fun x55_0 =>
    LdI .i64 ((a.add 20).add 1) w.drew fun x55_1 =>
    LdI .i64 ((a.add 20).add 2) w.drew fun x55_2 =>
    LdI .i64 ((a.add 20).add 3) w.drew fun x55_3 =>
    LdI .i64 ((a.add 20).add 4) w.drew fun x55_4 =>
    LdI .i64 ((a.add 20).add 5) w.drew fun x55_5 =>
    Pn t fun a_1 =>
    LdB (a_1.add 20) w.drew fun x59_0 =>
    LdI .i64 ((a_1.add 20).add 1) w.drew fun x59_1 =>
    LdI .i64 ((a_1.add 20).add 2) w.drew fun x59_2 =>
    LdI .i64 ((a_1.add 20).add 3) w.drew fun x59_3 =>
    LdI .i64 ((a_1.add 20).add 4) w.drew fun x59_4 =>
    LdI .i64 ((a_1.add 20).add 5) w.drew fun x59_5 =>
    store_sameHead.Call x55_0 x55_1 x55_2 x55_3 x55_4 x55_5 x59_0 x59_1 x59_2 x59_3 x59_4 x59_5 w.drew fun r60 w1 =>
    Bm (!r60) (
      sB2 t c true w1) (
      Pn c fun a_2 =>
      LdI .i64 (a_2.add 26) w1 fun x66 =>
      Pn t fun a_3 =>
      LdI .i64 (a_3.add 26) w1 fun x70 =>
      Bm (x66 != x70) (
        sB2 t c true w1) (
        Pn c fun a_4 =>
        LdS (a_4.add 27) w1 fun x77 =>
        Pn t fun a_5 =>
        LdS (a_5.add 27) w1 fun x81 =>
        sB2 t c (!(x77.toList == x81.toList)) w1)))) = kstep Try.prog 206 Try.f14.results.toList (Try.f14.body.getD .skip) (store_Store_Check.RV R) (kvc Try.prog 206 Try.f14.results.toList (Try.f14.body.getD .skip) (store_Store_Check.RV R) [([(0, [1, 1, 1, 1, 0, 1]), (0, [1, 1, 1, 1, 1])], fun σ w => dP (slotOf σ 0) fun t_ => dP (slotOf σ 3) fun c_ => dB (slotOf σ 83) fun t83_ => sB2 t_ c_ t83_ w)] 2000) [(0, [1, 1, 1, 0, 1]), (0, [1, 1, 1, 1])] [(0, .pointer t), (3, .pointer c), (51, .bool t51)] w := by kernel_rfl
theorem store_Store_Check.B1_sound {R : ByteArray → World → Prop}  (t c : Option Addr) (t51 : Bool) (w : World) (h : store_Store_Check.B1 t c t51 w   R) :
    KW Try.prog 14 206 (store_Store_Check.RV R) ([(0, [1, 1, 1, 0, 1]), (0, [1, 1, 1, 1])].map (toItem (Try.f14.body.getD .skip))) [(0, .pointer t), (3, .pointer c), (51, .bool t51)] w := by
  exact block_spec Try.func14 Try.mixed (stops_cons (fun σ w h => by
      obtain ⟨t_, e0, h⟩ := dP_elim h
      obtain ⟨c_, e1, h⟩ := dP_elim h
      obtain ⟨t83_, e2, h⟩ := dB_elim h
      exact (store_Store_Check.B2_sound  t_ c_ t83_ w h).weaken (Sub.cons (Sub.cons (Sub.cons (Sub.nil _) e2) e1) e0)) stops_nil) (Eq.mp (store_Store_Check.B1_eq t c t51 w   R (fun t_ c_ t83_ w => store_Store_Check.B2 t_ c_ t83_ w  R)) h)
def store_Store_Check.L1b (t c : Option Addr) (b : Int) (w : World)  (N1 : Option Addr → Option Addr → Int → World → Prop) (R : ByteArray → World → Prop) : Prop :=
  Bm (decide (b < (14 : Int))) (
    Pn c fun a =>
    (0 ≤ b ∧ b < ((14 : Nat) : Int)) ∧
    LdI .u8 (Addr.add (a.add 1) (b.toNat * 1)) w.drew fun x23 =>
    Pn t fun a_1 =>
    (0 ≤ b ∧ b < ((14 : Nat) : Int)) ∧
    LdI .u8 (Addr.add (a_1.add 1) (b.toNat * 1)) w.drew fun x29 =>
    Bm (x23 != x29) (
      R (ByteArray.mk #[97, 32, 114, 101, 109, 101, 109, 98, 101, 114, 101, 100, 32, 115, 116, 97, 109, 112, 32, 105, 115, 32, 110, 111, 116, 32, 116, 104, 101, 32, 98, 108, 111, 99, 107, 39, 115, 32, 108, 97, 115, 116, 32, 98, 121, 116, 101]) w.drew) (
      N1 t c (IntKind.i64.wrap (b + (1 : Int))) w.drew)) (
    Pn c fun a_2 =>
    LdB (a_2.add 15) w.drew fun x34_0 =>
    LdI .i64 ((a_2.add 15).add 1) w.drew fun x34_1 =>
    LdI .i64 ((a_2.add 15).add 2) w.drew fun x34_2 =>
    LdI .i64 ((a_2.add 15).add 3) w.drew fun x34_3 =>
    Pn t fun a_3 =>
    LdB (a_3.add 15) w.drew fun x38_0 =>
    LdI .i64 ((a_3.add 15).add 1) w.drew fun x38_1 =>
    LdI .i64 ((a_3.add 15).add 2) w.drew fun x38_2 =>
    LdI .i64 ((a_3.add 15).add 3) w.drew fun x38_3 =>
    store_sameMeta.Call x34_0 x34_1 x34_2 x34_3 x38_0 x38_1 x38_2 x38_3 w.drew fun r39 w1 =>
    Bm (!r39) (
      store_Store_Check.B1 t c true w1  R) (
      Pn c fun a_4 =>
      LdI .i64 (a_4.add 19) w1 fun x45 =>
      Pn t fun a_5 =>
      LdI .i64 (a_5.add 19) w1 fun x49 =>
      store_Store_Check.B1 t c (x45 != x49) w1  R))
theorem store_Store_Check.L1b_eq (t c : Option Addr) (b : Int) (w : World)  (N1 : Option Addr → Option Addr → Int → World → Prop) (R : ByteArray → World → Prop) (sB1 : Option Addr → Option Addr → Bool → World → Prop) :
    (
  Bm (decide (b < (14 : Int))) (
    Pn c fun a =>
    (0 ≤ b ∧ b < ((14 : Nat) : Int)) ∧
    LdI .u8 (Addr.add (a.add 1) (b.toNat * 1)) w.drew fun x23 =>
    Pn t fun a_1 =>
    (0 ≤ b ∧ b < ((14 : Nat) : Int)) ∧
    LdI .u8 (Addr.add (a_1.add 1) (b.toNat * 1)) w.drew fun x29 =>
    Bm (x23 != x29) (
      R (ByteArray.mk #[97, 32, 114, 101, 109, 101, 109, 98, 101, 114, 101, 100, 32, 115, 116, 97, 109, 112, 32, 105, 115, 32, 110, 111, 116, 32, 116, 104, 101, 32, 98, 108, 111, 99, 107, 39, 115, 32, 108, 97, 115, 116, 32, 98, 121, 116, 101]) w.drew) (
      N1 t c (IntKind.i64.wrap (b + (1 : Int))) w.drew)) (
    Pn c fun a_2 =>
    LdB (a_2.add 15) w.drew fun x34_0 =>
    LdI .i64 ((a_2.add 15).add 1) w.drew fun x34_1 =>
    LdI .i64 ((a_2.add 15).add 2) w.drew fun x34_2 =>
    LdI .i64 ((a_2.add 15).add 3) w.drew fun x34_3 =>
    Pn t fun a_3 =>
    LdB (a_3.add 15) w.drew fun x38_0 =>
    LdI .i64 ((a_3.add 15).add 1) w.drew fun x38_1 =>
    LdI .i64 ((a_3.add 15).add 2) w.drew fun x38_2 =>
    LdI .i64 ((a_3.add 15).add 3) w.drew fun x38_3 =>
    store_sameMeta.Call x34_0 x34_1 x34_2 x34_3 x38_0 x38_1 x38_2 x38_3 w.drew fun r39 w1 =>
    Bm (!r39) (
      sB1 t c true w1) (
      Pn c fun a_4 =>
      LdI .i64 (a_4.add 19) w1 fun x45 =>
      Pn t fun a_5 =>
      LdI .i64 (a_5.add 19) w1 fun x49 =>
      sB1 t c (x45 != x49) w1))) = kstep Try.prog 206 Try.f14.results.toList (Try.f14.body.getD .skip) (store_Store_Check.RV R) (kvc Try.prog 206 Try.f14.results.toList (Try.f14.body.getD .skip) (store_Store_Check.RV R) [([(0, [1, 1, 0, 1, 0, 0]), (2, [1, 1, 0, 1, 0, 0]), (1, [0]), (0, [1, 1, 1])], fun σ w => dP (slotOf σ 0) fun t_ => dP (slotOf σ 3) fun c_ => dI .i64 (slotOf σ 4) fun b_ => N1 t_ c_ b_ w),
    ([(0, [1, 1, 1, 0, 1]), (0, [1, 1, 1, 1])], fun σ w => dP (slotOf σ 0) fun t_ => dP (slotOf σ 3) fun c_ => dB (slotOf σ 51) fun t51_ => sB1 t_ c_ t51_ w)] 2000) [(0, [1, 1, 0, 1, 0, 0]), (2, [1, 1, 0, 1, 0, 0]), (1, [0]), (0, [1, 1, 1])] [(0, .pointer t), (3, .pointer c), (4, .int .i64 b)] w := by kernel_rfl
theorem store_Store_Check.L1b_sound {R : ByteArray → World → Prop} {N1 : Option Addr → Option Addr → Int → World → Prop} (hN1 : ∀ t c b w, N1 t c b w → KW Try.prog 14 206 (store_Store_Check.RV R) ([(0, [1, 1, 0, 1, 0, 0]), (2, [1, 1, 0, 1, 0, 0]), (1, [0]), (0, [1, 1, 1])].map (toItem (Try.f14.body.getD .skip))) [(0, .pointer t), (3, .pointer c), (4, .int .i64 b)] w) (t c : Option Addr) (b : Int) (w : World) (h : store_Store_Check.L1b t c b w  N1 R) :
    KW Try.prog 14 206 (store_Store_Check.RV R) ([(0, [1, 1, 0, 1, 0, 0]), (2, [1, 1, 0, 1, 0, 0]), (1, [0]), (0, [1, 1, 1])].map (toItem (Try.f14.body.getD .skip))) [(0, .pointer t), (3, .pointer c), (4, .int .i64 b)] w := by
  exact block_spec Try.func14 Try.mixed (stops_cons (fun σ w h => by
      obtain ⟨t_, e0, h⟩ := dP_elim h
      obtain ⟨c_, e1, h⟩ := dP_elim h
      obtain ⟨b_, e2, h⟩ := dI_elim h
      exact (hN1 t_ c_ b_ w h).weaken (Sub.cons (Sub.cons (Sub.cons (Sub.nil _) e2) e1) e0)) (stops_cons (fun σ w h => by
      obtain ⟨t_, e0, h⟩ := dP_elim h
      obtain ⟨c_, e1, h⟩ := dP_elim h
      obtain ⟨t51_, e2, h⟩ := dB_elim h
      exact (store_Store_Check.B1_sound  t_ c_ t51_ w h).weaken (Sub.cons (Sub.cons (Sub.cons (Sub.nil _) e2) e1) e0)) stops_nil)) (Eq.mp (store_Store_Check.L1b_eq t c b w  N1 R (fun t_ c_ t51_ w => store_Store_Check.B1 t_ c_ t51_ w  R)) h)
def store_Store_Check.L1 (t c : Option Addr) (b : Int) (w : World)  (R : ByteArray → World → Prop) : Prop :=
  ∃ (I : Nat → Option Addr → Option Addr → Int → World → Prop) (m : Nat), I m t c b w ∧ ∀ m t c b w, I m t c b w → store_Store_Check.L1b t c b w  (fun t' c' b' w' => ∃ m', m' < m ∧ I m' t' c' b' w') R
theorem store_Store_Check.L1_sound {R : ByteArray → World → Prop}  (t c : Option Addr) (b : Int) (w : World) (h : store_Store_Check.L1 t c b w  R) :
    KW Try.prog 14 206 (store_Store_Check.RV R) ([(0, [1, 1, 0, 1, 0, 0]), (2, [1, 1, 0, 1, 0, 0]), (1, [0]), (0, [1, 1, 1])].map (toItem (Try.f14.body.getD .skip))) [(0, .pointer t), (3, .pointer c), (4, .int .i64 b)] w := by
  obtain ⟨I, m, h0, hr⟩ := h
  refine KW.loop (fun m σ w => ∃ (t c : Option Addr) (b : Int), σ = [(0, .pointer t), (3, .pointer c), (4, .int .i64 b)] ∧ I m t c b w) ?_ m _ w ⟨t, c, b, rfl, h0⟩
  rintro m ih σ w ⟨t, c, b, rfl, hI⟩
  exact store_Store_Check.L1b_sound  (N1 := fun t' c' b' w' => ∃ m', m' < m ∧ I m' t' c' b' w') (fun t' c' b' w' hx => by obtain ⟨m', hlt, hI'⟩ := hx; exact ih m' hlt _ w' ⟨t', c', b', rfl, hI'⟩) t c b w (hr m t c b w hI)
def store_Store_Check.B0 (t : Option Addr) (w : World)   (R : ByteArray → World → Prop) : Prop :=
  Pn t fun a =>
  LdP a w fun x12 =>
  store_Open.Call x12 w fun r13 w1 =>
  store_Store_Check.L1 t r13 (0 : Int) w1  R
theorem store_Store_Check.B0_eq (t : Option Addr) (w : World)   (R : ByteArray → World → Prop) (sL1 : Option Addr → Option Addr → Int → World → Prop) :
    (
  Pn t fun a =>
  LdP a w fun x12 =>
  store_Open.Call x12 w fun r13 w1 =>
  sL1 t r13 (0 : Int) w1) = kstep Try.prog 206 Try.f14.results.toList (Try.f14.body.getD .skip) (store_Store_Check.RV R) (kvc Try.prog 206 Try.f14.results.toList (Try.f14.body.getD .skip) (store_Store_Check.RV R) [([(0, [1, 1, 0, 1, 0, 0]), (2, [1, 1, 0, 1, 0, 0]), (1, [0]), (0, [1, 1, 1])], fun σ w => dP (slotOf σ 0) fun t_ => dP (slotOf σ 3) fun c_ => dI .i64 (slotOf σ 4) fun b_ => sL1 t_ c_ b_ w)] 2000) [(0, [])] [(0, .pointer t)] w := by kernel_rfl
theorem store_Store_Check.B0_sound {R : ByteArray → World → Prop}  (t : Option Addr) (w : World) (h : store_Store_Check.B0 t w   R) :
    KW Try.prog 14 206 (store_Store_Check.RV R) ([(0, [])].map (toItem (Try.f14.body.getD .skip))) [(0, .pointer t)] w := by
  exact block_spec Try.func14 Try.mixed (stops_cons (fun σ w h => by
      obtain ⟨t_, e0, h⟩ := dP_elim h
      obtain ⟨c_, e1, h⟩ := dP_elim h
      obtain ⟨b_, e2, h⟩ := dI_elim h
      exact (store_Store_Check.L1_sound  t_ c_ b_ w h).weaken (Sub.cons (Sub.cons (Sub.cons (Sub.nil _) e2) e1) e0)) stops_nil) (Eq.mp (store_Store_Check.B0_eq t w   R (fun t_ c_ b_ w => store_Store_Check.L1 t_ c_ b_ w  R)) h)
theorem store_Store_Check.sound (t : Option Addr) (w : World) (R : ByteArray → World → Prop) (h : store_Store_Check.B0 t w R) : store_Store_Check.Call t w R := by
  have hc := calls_of_block (args := #[.pointer t]) Try.func14 (body := (Try.f14.body.getD .skip)) (by kernel_rfl) (by kernel_rfl) (args_slot _) (store_Store_Check.B0_sound t w h)
  exact hc.mono fun e w' he => by
    obtain ⟨v, rfl, hv⟩ := he
    exact store_Store_Check.RV_elim hv
def storelaw_Steps.B0 (b_0 : Option Addr) (w : World)   (R : Int → World → Prop) : Prop :=
  New (.cells #[.pointer b_0] 25) w fun b_ w1 =>
  LdP ⟨b_, 0, none⟩ w1 fun x4 =>
  diskm_Disk_Steps.Call x4 w1 fun r5 w2 =>
  R r5 w2
theorem storelaw_Steps.B0_eq (b_0 : Option Addr) (w : World)   (R : Int → World → Prop)  :
    (
  New (.cells #[.pointer b_0] 25) w fun b_ w1 =>
  LdP ⟨b_, 0, none⟩ w1 fun x4 =>
  diskm_Disk_Steps.Call x4 w1 fun r5 w2 =>
  R r5 w2) = kstep Try.prog 6 Try.f15.results.toList (Try.f15.body.getD .skip) (storelaw_Steps.RV R) (kvc Try.prog 6 Try.f15.results.toList (Try.f15.body.getD .skip) (storelaw_Steps.RV R) [] 2000) [(0, [])] [(0, .agg #[.pointer b_0])] w := by kernel_rfl
theorem storelaw_Steps.B0_sound {R : Int → World → Prop}  (b_0 : Option Addr) (w : World) (h : storelaw_Steps.B0 b_0 w   R) :
    KW Try.prog 15 6 (storelaw_Steps.RV R) ([(0, [])].map (toItem (Try.f15.body.getD .skip))) [(0, .agg #[.pointer b_0])] w := by
  exact block_spec Try.func15 Try.mixed stops_nil (Eq.mp (storelaw_Steps.B0_eq b_0 w   R ) h)
theorem storelaw_Steps.sound (b_0 : Option Addr) (w : World) (R : Int → World → Prop) (h : storelaw_Steps.B0 b_0 w R) : storelaw_Steps.Call b_0 w R := by
  have hc := calls_of_block (args := #[.agg #[.pointer b_0]]) Try.func15 (body := (Try.f15.body.getD .skip)) (by kernel_rfl) (by kernel_rfl) (args_slot _) (storelaw_Steps.B0_sound b_0 w h)
  exact hc.mono fun e w' he => by
    obtain ⟨v, rfl, hv⟩ := he
    exact storelaw_Steps.RV_elim hv
def storelaw_RefinesUpTo.B0 (script_b : Option Addr) (script_l script_c : Nat) (w : World)   (R : Int → World → Prop) : Prop :=
  storelaw_walk.Call script_b script_l script_c false false w fun r7_0 r7_1 w1 =>
  R r7_0 w1
theorem storelaw_RefinesUpTo.B0_eq (script_b : Option Addr) (script_l script_c : Nat) (w : World)   (R : Int → World → Prop)  :
    (
  storelaw_walk.Call script_b script_l script_c false false w fun r7_0 r7_1 w1 =>
  R r7_0 w1) = kstep Try.prog 11 Try.f16.results.toList (Try.f16.body.getD .skip) (storelaw_RefinesUpTo.RV R) (kvc Try.prog 11 Try.f16.results.toList (Try.f16.body.getD .skip) (storelaw_RefinesUpTo.RV R) [] 2000) [(0, [])] [(0, .slice script_b script_l script_c)] w := by kernel_rfl
theorem storelaw_RefinesUpTo.B0_sound {R : Int → World → Prop}  (script_b : Option Addr) (script_l script_c : Nat) (w : World) (h : storelaw_RefinesUpTo.B0 script_b script_l script_c w   R) :
    KW Try.prog 16 11 (storelaw_RefinesUpTo.RV R) ([(0, [])].map (toItem (Try.f16.body.getD .skip))) [(0, .slice script_b script_l script_c)] w := by
  exact block_spec Try.func16 Try.mixed stops_nil (Eq.mp (storelaw_RefinesUpTo.B0_eq script_b script_l script_c w   R ) h)
theorem storelaw_RefinesUpTo.sound (script_b : Option Addr) (script_l script_c : Nat) (w : World) (R : Int → World → Prop) (h : storelaw_RefinesUpTo.B0 script_b script_l script_c w R) : storelaw_RefinesUpTo.Call script_b script_l script_c w R := by
  have hc := calls_of_block (args := #[.slice script_b script_l script_c]) Try.func16 (body := (Try.f16.body.getD .skip)) (by kernel_rfl) (by kernel_rfl) (args_slot _) (storelaw_RefinesUpTo.B0_sound script_b script_l script_c w h)
  exact hc.mono fun e w' he => by
    obtain ⟨v, rfl, hv⟩ := he
    exact storelaw_RefinesUpTo.RV_elim hv
def storelaw_walk.B5 (script_b : Option Addr) (script_l script_c : Nat) (steady quiet : Bool) (b : Nat) (x m0 : Option Addr) (i : Int) (w : World) (N1 : Option Addr → Nat → Nat → Bool → Bool → Nat → Option Addr → Option Addr → Int → World → Prop)  (R : Int → Int → World → Prop) : Prop :=
  N1 script_b script_l script_c steady quiet b x m0 (IntKind.i64.wrap (i + (1 : Int))) w
theorem storelaw_walk.B5_eq (script_b : Option Addr) (script_l script_c : Nat) (steady quiet : Bool) (b : Nat) (x m0 : Option Addr) (i : Int) (w : World) (N1 : Option Addr → Nat → Nat → Bool → Bool → Nat → Option Addr → Option Addr → Int → World → Prop)  (R : Int → Int → World → Prop)  :
    (
  N1 script_b script_l script_c steady quiet b x m0 (IntKind.i64.wrap (i + (1 : Int))) w) = kstep Try.prog 176 Try.f17.results.toList (Try.f17.body.getD .skip) (storelaw_walk.RV R) (kvc Try.prog 176 Try.f17.results.toList (Try.f17.body.getD .skip) (storelaw_walk.RV R) [([(0, [1, 1, 1, 1, 1, 1, 1, 0, 1, 0, 0]), (2, [1, 1, 1, 1, 1, 1, 1, 0, 1, 0, 0]), (1, [0]), (0, [1, 1, 1, 1, 1, 1, 1, 1])], fun σ w => dL (slotOf σ 0) fun script_b_ script_l_ script_c_ => dB (slotOf σ 1) fun steady_ => dB (slotOf σ 2) fun quiet_ => dK (slotOf σ 8) fun b_ => dP (slotOf σ 9) fun x_ => dP (slotOf σ 10) fun m0_ => dI .i64 (slotOf σ 12) fun i_ => N1 script_b_ script_l_ script_c_ steady_ quiet_ b_ x_ m0_ i_ w)] 2000) [(0, [1, 1, 1, 1, 1, 1, 1, 0, 1, 0, 0, 1, 1]), (2, [1, 1, 1, 1, 1, 1, 1, 0, 1, 0, 0]), (1, [0]), (0, [1, 1, 1, 1, 1, 1, 1, 1])] [(0, .slice script_b script_l script_c), (1, .bool steady), (2, .bool quiet), (8, .pointer (some ⟨b, 0, none⟩)), (9, .pointer x), (10, .pointer m0), (12, .int .i64 i)] w := by kernel_rfl
theorem storelaw_walk.B5_sound {R : Int → Int → World → Prop} {N1 : Option Addr → Nat → Nat → Bool → Bool → Nat → Option Addr → Option Addr → Int → World → Prop} (hN1 : ∀ script_b script_l script_c steady quiet b x m0 i w, N1 script_b script_l script_c steady quiet b x m0 i w → KW Try.prog 17 176 (storelaw_walk.RV R) ([(0, [1, 1, 1, 1, 1, 1, 1, 0, 1, 0, 0]), (2, [1, 1, 1, 1, 1, 1, 1, 0, 1, 0, 0]), (1, [0]), (0, [1, 1, 1, 1, 1, 1, 1, 1])].map (toItem (Try.f17.body.getD .skip))) [(0, .slice script_b script_l script_c), (1, .bool steady), (2, .bool quiet), (8, .pointer (some ⟨b, 0, none⟩)), (9, .pointer x), (10, .pointer m0), (12, .int .i64 i)] w) (script_b : Option Addr) (script_l script_c : Nat) (steady quiet : Bool) (b : Nat) (x m0 : Option Addr) (i : Int) (w : World) (h : storelaw_walk.B5 script_b script_l script_c steady quiet b x m0 i w N1  R) :
    KW Try.prog 17 176 (storelaw_walk.RV R) ([(0, [1, 1, 1, 1, 1, 1, 1, 0, 1, 0, 0, 1, 1]), (2, [1, 1, 1, 1, 1, 1, 1, 0, 1, 0, 0]), (1, [0]), (0, [1, 1, 1, 1, 1, 1, 1, 1])].map (toItem (Try.f17.body.getD .skip))) [(0, .slice script_b script_l script_c), (1, .bool steady), (2, .bool quiet), (8, .pointer (some ⟨b, 0, none⟩)), (9, .pointer x), (10, .pointer m0), (12, .int .i64 i)] w := by
  exact block_spec Try.func17 Try.mixed (stops_cons (fun σ w h => by
      obtain ⟨script_b_, script_l_, script_c_, e0, h⟩ := dL_elim h
      obtain ⟨steady_, e1, h⟩ := dB_elim h
      obtain ⟨quiet_, e2, h⟩ := dB_elim h
      obtain ⟨b_, e3, h⟩ := dK_elim h
      obtain ⟨x_, e4, h⟩ := dP_elim h
      obtain ⟨m0_, e5, h⟩ := dP_elim h
      obtain ⟨i_, e6, h⟩ := dI_elim h
      exact (hN1 script_b_ script_l_ script_c_ steady_ quiet_ b_ x_ m0_ i_ w h).weaken (Sub.cons (Sub.cons (Sub.cons (Sub.cons (Sub.cons (Sub.cons (Sub.cons (Sub.nil _) e6) e5) e4) e3) e2) e1) e0)) stops_nil) (Eq.mp (storelaw_walk.B5_eq script_b script_l script_c steady quiet b x m0 i w N1  R ) h)
def storelaw_walk.B6 (script_b : Option Addr) (script_l script_c : Nat) (steady quiet : Bool) (b : Nat) (x m0 : Option Addr) (i : Int) (t94 : Bool) (w : World) (N1 : Option Addr → Nat → Nat → Bool → Bool → Nat → Option Addr → Option Addr → Int → World → Prop)  (R : Int → Int → World → Prop) : Prop :=
  Bm t94 (
    R i i w) (
    storelaw_walk.B5 script_b script_l script_c steady quiet b x m0 i w N1 R)
theorem storelaw_walk.B6_eq (script_b : Option Addr) (script_l script_c : Nat) (steady quiet : Bool) (b : Nat) (x m0 : Option Addr) (i : Int) (t94 : Bool) (w : World) (N1 : Option Addr → Nat → Nat → Bool → Bool → Nat → Option Addr → Option Addr → Int → World → Prop)  (R : Int → Int → World → Prop) (sB5 : Option Addr → Nat → Nat → Bool → Bool → Nat → Option Addr → Option Addr → Int → World → Prop) :
    (
  Bm t94 (
    R i i w) (
    sB5 script_b script_l script_c steady quiet b x m0 i w)) = kstep Try.prog 176 Try.f17.results.toList (Try.f17.body.getD .skip) (storelaw_walk.RV R) (kvc Try.prog 176 Try.f17.results.toList (Try.f17.body.getD .skip) (storelaw_walk.RV R) [([(0, [1, 1, 1, 1, 1, 1, 1, 0, 1, 0, 0, 1, 1]), (2, [1, 1, 1, 1, 1, 1, 1, 0, 1, 0, 0]), (1, [0]), (0, [1, 1, 1, 1, 1, 1, 1, 1])], fun σ w => dL (slotOf σ 0) fun script_b_ script_l_ script_c_ => dB (slotOf σ 1) fun steady_ => dB (slotOf σ 2) fun quiet_ => dK (slotOf σ 8) fun b_ => dP (slotOf σ 9) fun x_ => dP (slotOf σ 10) fun m0_ => dI .i64 (slotOf σ 12) fun i_ => sB5 script_b_ script_l_ script_c_ steady_ quiet_ b_ x_ m0_ i_ w)] 2000) [(0, [1, 1, 1, 1, 1, 1, 1, 0, 1, 0, 0, 1, 0, 0, 1, 1, 0, 1, 1, 1, 1, 1, 1]), (1, [1]), (0, [1, 1, 1, 1, 1, 1, 1, 0, 1, 0, 0, 1, 1]), (2, [1, 1, 1, 1, 1, 1, 1, 0, 1, 0, 0]), (1, [0]), (0, [1, 1, 1, 1, 1, 1, 1, 1])] [(0, .slice script_b script_l script_c), (1, .bool steady), (2, .bool quiet), (8, .pointer (some ⟨b, 0, none⟩)), (9, .pointer x), (10, .pointer m0), (12, .int .i64 i), (94, .bool t94)] w := by kernel_rfl
theorem storelaw_walk.B6_sound {R : Int → Int → World → Prop} {N1 : Option Addr → Nat → Nat → Bool → Bool → Nat → Option Addr → Option Addr → Int → World → Prop} (hN1 : ∀ script_b script_l script_c steady quiet b x m0 i w, N1 script_b script_l script_c steady quiet b x m0 i w → KW Try.prog 17 176 (storelaw_walk.RV R) ([(0, [1, 1, 1, 1, 1, 1, 1, 0, 1, 0, 0]), (2, [1, 1, 1, 1, 1, 1, 1, 0, 1, 0, 0]), (1, [0]), (0, [1, 1, 1, 1, 1, 1, 1, 1])].map (toItem (Try.f17.body.getD .skip))) [(0, .slice script_b script_l script_c), (1, .bool steady), (2, .bool quiet), (8, .pointer (some ⟨b, 0, none⟩)), (9, .pointer x), (10, .pointer m0), (12, .int .i64 i)] w) (script_b : Option Addr) (script_l script_c : Nat) (steady quiet : Bool) (b : Nat) (x m0 : Option Addr) (i : Int) (t94 : Bool) (w : World) (h : storelaw_walk.B6 script_b script_l script_c steady quiet b x m0 i t94 w N1  R) :
    KW Try.prog 17 176 (storelaw_walk.RV R) ([(0, [1, 1, 1, 1, 1, 1, 1, 0, 1, 0, 0, 1, 0, 0, 1, 1, 0, 1, 1, 1, 1, 1, 1]), (1, [1]), (0, [1, 1, 1, 1, 1, 1, 1, 0, 1, 0, 0, 1, 1]), (2, [1, 1, 1, 1, 1, 1, 1, 0, 1, 0, 0]), (1, [0]), (0, [1, 1, 1, 1, 1, 1, 1, 1])].map (toItem (Try.f17.body.getD .skip))) [(0, .slice script_b script_l script_c), (1, .bool steady), (2, .bool quiet), (8, .pointer (some ⟨b, 0, none⟩)), (9, .pointer x), (10, .pointer m0), (12, .int .i64 i), (94, .bool t94)] w := by
  exact block_spec Try.func17 Try.mixed (stops_cons (fun σ w h => by
      obtain ⟨script_b_, script_l_, script_c_, e0, h⟩ := dL_elim h
      obtain ⟨steady_, e1, h⟩ := dB_elim h
      obtain ⟨quiet_, e2, h⟩ := dB_elim h
      obtain ⟨b_, e3, h⟩ := dK_elim h
      obtain ⟨x_, e4, h⟩ := dP_elim h
      obtain ⟨m0_, e5, h⟩ := dP_elim h
      obtain ⟨i_, e6, h⟩ := dI_elim h
      exact (storelaw_walk.B5_sound hN1 script_b_ script_l_ script_c_ steady_ quiet_ b_ x_ m0_ i_ w h).weaken (Sub.cons (Sub.cons (Sub.cons (Sub.cons (Sub.cons (Sub.cons (Sub.cons (Sub.nil _) e6) e5) e4) e3) e2) e1) e0)) stops_nil) (Eq.mp (storelaw_walk.B6_eq script_b script_l script_c steady quiet b x m0 i t94 w N1  R (fun script_b_ script_l_ script_c_ steady_ quiet_ b_ x_ m0_ i_ w => storelaw_walk.B5 script_b_ script_l_ script_c_ steady_ quiet_ b_ x_ m0_ i_ w N1 R)) h)
def storelaw_walk.B3 (script_b : Option Addr) (script_l script_c : Nat) (steady quiet : Bool) (b : Nat) (x m0 : Option Addr) (i n : Int) (t82 : Bool) (w : World) (N1 : Option Addr → Nat → Nat → Bool → Bool → Nat → Option Addr → Option Addr → Int → World → Prop)  (R : Int → Int → World → Prop) : Prop :=
  Bm t82 (
    R i i w) (
    Bm (!quiet) (
      LdP ⟨b, 0, none⟩ w fun x88_0 =>
      storelaw_Seen.Call x88_0 x m0 n w fun r92 w1 =>
      storelaw_walk.B6 script_b script_l script_c steady quiet b x m0 i (!r92) w1 N1 R) (
      storelaw_walk.B6 script_b script_l script_c steady quiet b x m0 i false w N1 R))
theorem storelaw_walk.B3_eq (script_b : Option Addr) (script_l script_c : Nat) (steady quiet : Bool) (b : Nat) (x m0 : Option Addr) (i n : Int) (t82 : Bool) (w : World) (N1 : Option Addr → Nat → Nat → Bool → Bool → Nat → Option Addr → Option Addr → Int → World → Prop)  (R : Int → Int → World → Prop) (sB6 : Option Addr → Nat → Nat → Bool → Bool → Nat → Option Addr → Option Addr → Int → Bool → World → Prop) :
    (
  Bm t82 (
    R i i w) (
    Bm (!quiet) (
      LdP ⟨b, 0, none⟩ w fun x88_0 =>
      storelaw_Seen.Call x88_0 x m0 n w fun r92 w1 =>
      sB6 script_b script_l script_c steady quiet b x m0 i (!r92) w1) (
      sB6 script_b script_l script_c steady quiet b x m0 i false w))) = kstep Try.prog 176 Try.f17.results.toList (Try.f17.body.getD .skip) (storelaw_walk.RV R) (kvc Try.prog 176 Try.f17.results.toList (Try.f17.body.getD .skip) (storelaw_walk.RV R) [([(0, [1, 1, 1, 1, 1, 1, 1, 0, 1, 0, 0, 1, 0, 0, 1, 1, 0, 1, 1, 1, 1, 1, 1]), (1, [1]), (0, [1, 1, 1, 1, 1, 1, 1, 0, 1, 0, 0, 1, 1]), (2, [1, 1, 1, 1, 1, 1, 1, 0, 1, 0, 0]), (1, [0]), (0, [1, 1, 1, 1, 1, 1, 1, 1])], fun σ w => dL (slotOf σ 0) fun script_b_ script_l_ script_c_ => dB (slotOf σ 1) fun steady_ => dB (slotOf σ 2) fun quiet_ => dK (slotOf σ 8) fun b_ => dP (slotOf σ 9) fun x_ => dP (slotOf σ 10) fun m0_ => dI .i64 (slotOf σ 12) fun i_ => dB (slotOf σ 94) fun t94_ => sB6 script_b_ script_l_ script_c_ steady_ quiet_ b_ x_ m0_ i_ t94_ w)] 2000) [(0, [1, 1, 1, 1, 1, 1, 1, 0, 1, 0, 0, 1, 0, 0, 1, 1, 0, 1, 1, 1, 1, 0, 1]), (0, [1, 1, 1, 1, 1, 1, 1, 0, 1, 0, 0, 1, 0, 0, 1, 1, 0, 1, 1, 1, 1, 1]), (1, [1]), (0, [1, 1, 1, 1, 1, 1, 1, 0, 1, 0, 0, 1, 1]), (2, [1, 1, 1, 1, 1, 1, 1, 0, 1, 0, 0]), (1, [0]), (0, [1, 1, 1, 1, 1, 1, 1, 1])] [(0, .slice script_b script_l script_c), (1, .bool steady), (2, .bool quiet), (8, .pointer (some ⟨b, 0, none⟩)), (9, .pointer x), (10, .pointer m0), (12, .int .i64 i), (16, .int .i64 n), (82, .bool t82)] w := by kernel_rfl
theorem storelaw_walk.B3_sound {R : Int → Int → World → Prop} {N1 : Option Addr → Nat → Nat → Bool → Bool → Nat → Option Addr → Option Addr → Int → World → Prop} (hN1 : ∀ script_b script_l script_c steady quiet b x m0 i w, N1 script_b script_l script_c steady quiet b x m0 i w → KW Try.prog 17 176 (storelaw_walk.RV R) ([(0, [1, 1, 1, 1, 1, 1, 1, 0, 1, 0, 0]), (2, [1, 1, 1, 1, 1, 1, 1, 0, 1, 0, 0]), (1, [0]), (0, [1, 1, 1, 1, 1, 1, 1, 1])].map (toItem (Try.f17.body.getD .skip))) [(0, .slice script_b script_l script_c), (1, .bool steady), (2, .bool quiet), (8, .pointer (some ⟨b, 0, none⟩)), (9, .pointer x), (10, .pointer m0), (12, .int .i64 i)] w) (script_b : Option Addr) (script_l script_c : Nat) (steady quiet : Bool) (b : Nat) (x m0 : Option Addr) (i n : Int) (t82 : Bool) (w : World) (h : storelaw_walk.B3 script_b script_l script_c steady quiet b x m0 i n t82 w N1  R) :
    KW Try.prog 17 176 (storelaw_walk.RV R) ([(0, [1, 1, 1, 1, 1, 1, 1, 0, 1, 0, 0, 1, 0, 0, 1, 1, 0, 1, 1, 1, 1, 0, 1]), (0, [1, 1, 1, 1, 1, 1, 1, 0, 1, 0, 0, 1, 0, 0, 1, 1, 0, 1, 1, 1, 1, 1]), (1, [1]), (0, [1, 1, 1, 1, 1, 1, 1, 0, 1, 0, 0, 1, 1]), (2, [1, 1, 1, 1, 1, 1, 1, 0, 1, 0, 0]), (1, [0]), (0, [1, 1, 1, 1, 1, 1, 1, 1])].map (toItem (Try.f17.body.getD .skip))) [(0, .slice script_b script_l script_c), (1, .bool steady), (2, .bool quiet), (8, .pointer (some ⟨b, 0, none⟩)), (9, .pointer x), (10, .pointer m0), (12, .int .i64 i), (16, .int .i64 n), (82, .bool t82)] w := by
  exact block_spec Try.func17 Try.mixed (stops_cons (fun σ w h => by
      obtain ⟨script_b_, script_l_, script_c_, e0, h⟩ := dL_elim h
      obtain ⟨steady_, e1, h⟩ := dB_elim h
      obtain ⟨quiet_, e2, h⟩ := dB_elim h
      obtain ⟨b_, e3, h⟩ := dK_elim h
      obtain ⟨x_, e4, h⟩ := dP_elim h
      obtain ⟨m0_, e5, h⟩ := dP_elim h
      obtain ⟨i_, e6, h⟩ := dI_elim h
      obtain ⟨t94_, e7, h⟩ := dB_elim h
      exact (storelaw_walk.B6_sound hN1 script_b_ script_l_ script_c_ steady_ quiet_ b_ x_ m0_ i_ t94_ w h).weaken (Sub.cons (Sub.cons (Sub.cons (Sub.cons (Sub.cons (Sub.cons (Sub.cons (Sub.cons (Sub.nil _) e7) e6) e5) e4) e3) e2) e1) e0)) stops_nil) (Eq.mp (storelaw_walk.B3_eq script_b script_l script_c steady quiet b x m0 i n t82 w N1  R (fun script_b_ script_l_ script_c_ steady_ quiet_ b_ x_ m0_ i_ t94_ w => storelaw_walk.B6 script_b_ script_l_ script_c_ steady_ quiet_ b_ x_ m0_ i_ t94_ w N1 R)) h)
def storelaw_walk.B8 (script_b : Option Addr) (script_l script_c : Nat) (steady quiet : Bool) (b : Nat) (x m0 : Option Addr) (i : Int) (o b0 : Nat) (j : Int) (t157 : Bool) (w : World) (N1 : Option Addr → Nat → Nat → Bool → Bool → Nat → Option Addr → Option Addr → Int → World → Prop)  (R : Int → Int → World → Prop) : Prop :=
  Bm t157 (
    R i i w) (
    storem_Store_After.Call m0 j w fun r162 w1 =>
    Bm quiet (
      LdP ⟨b0, 0, none⟩ w1 fun x164_0 =>
      LdI .i64 ⟨o, 1, none⟩ w1 fun x166 =>
      storelaw_After.Call x164_0 x166 w1 fun r167_0 w2 =>
      Sts [.pointer r167_0] ⟨b, 0, none⟩ 0 w2 fun w3 =>
      LdP ⟨b, 0, none⟩ w3 fun x169 =>
      store_Open.Call x169 w3 fun r170 w4 =>
      storelaw_walk.B5 script_b script_l script_c steady quiet b r170 r162 i w4 N1 R) (
      storelaw_walk.B5 script_b script_l script_c steady quiet b x r162 i w1 N1 R))
theorem storelaw_walk.B8_eq (script_b : Option Addr) (script_l script_c : Nat) (steady quiet : Bool) (b : Nat) (x m0 : Option Addr) (i : Int) (o b0 : Nat) (j : Int) (t157 : Bool) (w : World) (N1 : Option Addr → Nat → Nat → Bool → Bool → Nat → Option Addr → Option Addr → Int → World → Prop)  (R : Int → Int → World → Prop) (sB5 : Option Addr → Nat → Nat → Bool → Bool → Nat → Option Addr → Option Addr → Int → World → Prop) :
    (
  Bm t157 (
    R i i w) (
    storem_Store_After.Call m0 j w fun r162 w1 =>
    Bm quiet (
      LdP ⟨b0, 0, none⟩ w1 fun x164_0 =>
      LdI .i64 ⟨o, 1, none⟩ w1 fun x166 =>
      storelaw_After.Call x164_0 x166 w1 fun r167_0 w2 =>
      Sts [.pointer r167_0] ⟨b, 0, none⟩ 0 w2 fun w3 =>
      LdP ⟨b, 0, none⟩ w3 fun x169 =>
      store_Open.Call x169 w3 fun r170 w4 =>
      sB5 script_b script_l script_c steady quiet b r170 r162 i w4) (
      sB5 script_b script_l script_c steady quiet b x r162 i w1))) = kstep Try.prog 176 Try.f17.results.toList (Try.f17.body.getD .skip) (storelaw_walk.RV R) (kvc Try.prog 176 Try.f17.results.toList (Try.f17.body.getD .skip) (storelaw_walk.RV R) [([(0, [1, 1, 1, 1, 1, 1, 1, 0, 1, 0, 0, 1, 1]), (2, [1, 1, 1, 1, 1, 1, 1, 0, 1, 0, 0]), (1, [0]), (0, [1, 1, 1, 1, 1, 1, 1, 1])], fun σ w => dL (slotOf σ 0) fun script_b_ script_l_ script_c_ => dB (slotOf σ 1) fun steady_ => dB (slotOf σ 2) fun quiet_ => dK (slotOf σ 8) fun b_ => dP (slotOf σ 9) fun x_ => dP (slotOf σ 10) fun m0_ => dI .i64 (slotOf σ 12) fun i_ => sB5 script_b_ script_l_ script_c_ steady_ quiet_ b_ x_ m0_ i_ w)] 2000) [(0, [1, 1, 1, 1, 1, 1, 1, 0, 1, 0, 0, 1, 0, 0, 1, 1, 1, 1, 0, 1, 1, 1, 1, 1, 1, 1, 1, 1, 1, 1, 1, 1, 0, 1]), (0, [1, 1, 1, 1, 1, 1, 1, 0, 1, 0, 0, 1, 0, 0, 1, 1, 1, 1, 0, 1, 1, 1, 1, 1, 1, 1, 1, 1, 1, 1, 1, 1, 1]), (1, [1]), (0, [1, 1, 1, 1, 1, 1, 1, 0, 1, 0, 0, 1, 1]), (2, [1, 1, 1, 1, 1, 1, 1, 0, 1, 0, 0]), (1, [0]), (0, [1, 1, 1, 1, 1, 1, 1, 1])] [(0, .slice script_b script_l script_c), (1, .bool steady), (2, .bool quiet), (8, .pointer (some ⟨b, 0, none⟩)), (9, .pointer x), (10, .pointer m0), (12, .int .i64 i), (13, .pointer (some ⟨o, 0, none⟩)), (18, .pointer (some ⟨b0, 0, none⟩)), (20, .int .i64 j), (157, .bool t157)] w := by kernel_rfl
theorem storelaw_walk.B8_sound {R : Int → Int → World → Prop} {N1 : Option Addr → Nat → Nat → Bool → Bool → Nat → Option Addr → Option Addr → Int → World → Prop} (hN1 : ∀ script_b script_l script_c steady quiet b x m0 i w, N1 script_b script_l script_c steady quiet b x m0 i w → KW Try.prog 17 176 (storelaw_walk.RV R) ([(0, [1, 1, 1, 1, 1, 1, 1, 0, 1, 0, 0]), (2, [1, 1, 1, 1, 1, 1, 1, 0, 1, 0, 0]), (1, [0]), (0, [1, 1, 1, 1, 1, 1, 1, 1])].map (toItem (Try.f17.body.getD .skip))) [(0, .slice script_b script_l script_c), (1, .bool steady), (2, .bool quiet), (8, .pointer (some ⟨b, 0, none⟩)), (9, .pointer x), (10, .pointer m0), (12, .int .i64 i)] w) (script_b : Option Addr) (script_l script_c : Nat) (steady quiet : Bool) (b : Nat) (x m0 : Option Addr) (i : Int) (o b0 : Nat) (j : Int) (t157 : Bool) (w : World) (h : storelaw_walk.B8 script_b script_l script_c steady quiet b x m0 i o b0 j t157 w N1  R) :
    KW Try.prog 17 176 (storelaw_walk.RV R) ([(0, [1, 1, 1, 1, 1, 1, 1, 0, 1, 0, 0, 1, 0, 0, 1, 1, 1, 1, 0, 1, 1, 1, 1, 1, 1, 1, 1, 1, 1, 1, 1, 1, 0, 1]), (0, [1, 1, 1, 1, 1, 1, 1, 0, 1, 0, 0, 1, 0, 0, 1, 1, 1, 1, 0, 1, 1, 1, 1, 1, 1, 1, 1, 1, 1, 1, 1, 1, 1]), (1, [1]), (0, [1, 1, 1, 1, 1, 1, 1, 0, 1, 0, 0, 1, 1]), (2, [1, 1, 1, 1, 1, 1, 1, 0, 1, 0, 0]), (1, [0]), (0, [1, 1, 1, 1, 1, 1, 1, 1])].map (toItem (Try.f17.body.getD .skip))) [(0, .slice script_b script_l script_c), (1, .bool steady), (2, .bool quiet), (8, .pointer (some ⟨b, 0, none⟩)), (9, .pointer x), (10, .pointer m0), (12, .int .i64 i), (13, .pointer (some ⟨o, 0, none⟩)), (18, .pointer (some ⟨b0, 0, none⟩)), (20, .int .i64 j), (157, .bool t157)] w := by
  exact block_spec Try.func17 Try.mixed (stops_cons (fun σ w h => by
      obtain ⟨script_b_, script_l_, script_c_, e0, h⟩ := dL_elim h
      obtain ⟨steady_, e1, h⟩ := dB_elim h
      obtain ⟨quiet_, e2, h⟩ := dB_elim h
      obtain ⟨b_, e3, h⟩ := dK_elim h
      obtain ⟨x_, e4, h⟩ := dP_elim h
      obtain ⟨m0_, e5, h⟩ := dP_elim h
      obtain ⟨i_, e6, h⟩ := dI_elim h
      exact (storelaw_walk.B5_sound hN1 script_b_ script_l_ script_c_ steady_ quiet_ b_ x_ m0_ i_ w h).weaken (Sub.cons (Sub.cons (Sub.cons (Sub.cons (Sub.cons (Sub.cons (Sub.cons (Sub.nil _) e6) e5) e4) e3) e2) e1) e0)) stops_nil) (Eq.mp (storelaw_walk.B8_eq script_b script_l script_c steady quiet b x m0 i o b0 j t157 w N1  R (fun script_b_ script_l_ script_c_ steady_ quiet_ b_ x_ m0_ i_ w => storelaw_walk.B5 script_b_ script_l_ script_c_ steady_ quiet_ b_ x_ m0_ i_ w N1 R)) h)
def storelaw_walk.B7 (script_b : Option Addr) (script_l script_c : Nat) (steady quiet : Bool) (b : Nat) (x m0 : Option Addr) (i : Int) (o : Nat) (n : Int) (b0 : Nat) (j : Int) (t140 : Bool) (w : World) (N1 : Option Addr → Nat → Nat → Bool → Bool → Nat → Option Addr → Option Addr → Int → World → Prop)  (R : Int → Int → World → Prop) : Prop :=
  Bm t140 (
    R i i w) (
    storem_Store_Steps.Call m0 w fun r144 w1 =>
    storem_Store_After.Call m0 r144 w1 fun r147 w2 =>
    LdI .i64 ⟨o, 1, none⟩ w2 fun x149 =>
    Bm (decide (x149 ≥ n)) (
      storelaw_Alike.Call x r147 w2 fun r155 w3 =>
      storelaw_walk.B8 script_b script_l script_c steady quiet b x m0 i o b0 j (!r155) w3 N1 R) (
      storelaw_walk.B8 script_b script_l script_c steady quiet b x m0 i o b0 j false w2 N1 R))
theorem storelaw_walk.B7_eq (script_b : Option Addr) (script_l script_c : Nat) (steady quiet : Bool) (b : Nat) (x m0 : Option Addr) (i : Int) (o : Nat) (n : Int) (b0 : Nat) (j : Int) (t140 : Bool) (w : World) (N1 : Option Addr → Nat → Nat → Bool → Bool → Nat → Option Addr → Option Addr → Int → World → Prop)  (R : Int → Int → World → Prop) (sB8 : Option Addr → Nat → Nat → Bool → Bool → Nat → Option Addr → Option Addr → Int → Nat → Nat → Int → Bool → World → Prop) :
    (
  Bm t140 (
    R i i w) (
    storem_Store_Steps.Call m0 w fun r144 w1 =>
    storem_Store_After.Call m0 r144 w1 fun r147 w2 =>
    LdI .i64 ⟨o, 1, none⟩ w2 fun x149 =>
    Bm (decide (x149 ≥ n)) (
      storelaw_Alike.Call x r147 w2 fun r155 w3 =>
      sB8 script_b script_l script_c steady quiet b x m0 i o b0 j (!r155) w3) (
      sB8 script_b script_l script_c steady quiet b x m0 i o b0 j false w2))) = kstep Try.prog 176 Try.f17.results.toList (Try.f17.body.getD .skip) (storelaw_walk.RV R) (kvc Try.prog 176 Try.f17.results.toList (Try.f17.body.getD .skip) (storelaw_walk.RV R) [([(0, [1, 1, 1, 1, 1, 1, 1, 0, 1, 0, 0, 1, 0, 0, 1, 1, 1, 1, 0, 1, 1, 1, 1, 1, 1, 1, 1, 1, 1, 1, 1, 1, 0, 1]), (0, [1, 1, 1, 1, 1, 1, 1, 0, 1, 0, 0, 1, 0, 0, 1, 1, 1, 1, 0, 1, 1, 1, 1, 1, 1, 1, 1, 1, 1, 1, 1, 1, 1]), (1, [1]), (0, [1, 1, 1, 1, 1, 1, 1, 0, 1, 0, 0, 1, 1]), (2, [1, 1, 1, 1, 1, 1, 1, 0, 1, 0, 0]), (1, [0]), (0, [1, 1, 1, 1, 1, 1, 1, 1])], fun σ w => dL (slotOf σ 0) fun script_b_ script_l_ script_c_ => dB (slotOf σ 1) fun steady_ => dB (slotOf σ 2) fun quiet_ => dK (slotOf σ 8) fun b_ => dP (slotOf σ 9) fun x_ => dP (slotOf σ 10) fun m0_ => dI .i64 (slotOf σ 12) fun i_ => dK (slotOf σ 13) fun o_ => dK (slotOf σ 18) fun b0_ => dI .i64 (slotOf σ 20) fun j_ => dB (slotOf σ 157) fun t157_ => sB8 script_b_ script_l_ script_c_ steady_ quiet_ b_ x_ m0_ i_ o_ b0_ j_ t157_ w)] 2000) [(0, [1, 1, 1, 1, 1, 1, 1, 0, 1, 0, 0, 1, 0, 0, 1, 1, 1, 1, 0, 1, 1, 1, 1, 1, 1, 1, 1, 1, 1, 0, 1]), (0, [1, 1, 1, 1, 1, 1, 1, 0, 1, 0, 0, 1, 0, 0, 1, 1, 1, 1, 0, 1, 1, 1, 1, 1, 1, 1, 1, 1, 1, 1]), (1, [1]), (0, [1, 1, 1, 1, 1, 1, 1, 0, 1, 0, 0, 1, 1]), (2, [1, 1, 1, 1, 1, 1, 1, 0, 1, 0, 0]), (1, [0]), (0, [1, 1, 1, 1, 1, 1, 1, 1])] [(0, .slice script_b script_l script_c), (1, .bool steady), (2, .bool quiet), (8, .pointer (some ⟨b, 0, none⟩)), (9, .pointer x), (10, .pointer m0), (12, .int .i64 i), (13, .pointer (some ⟨o, 0, none⟩)), (17, .int .i64 n), (18, .pointer (some ⟨b0, 0, none⟩)), (20, .int .i64 j), (140, .bool t140)] w := by kernel_rfl
theorem storelaw_walk.B7_sound {R : Int → Int → World → Prop} {N1 : Option Addr → Nat → Nat → Bool → Bool → Nat → Option Addr → Option Addr → Int → World → Prop} (hN1 : ∀ script_b script_l script_c steady quiet b x m0 i w, N1 script_b script_l script_c steady quiet b x m0 i w → KW Try.prog 17 176 (storelaw_walk.RV R) ([(0, [1, 1, 1, 1, 1, 1, 1, 0, 1, 0, 0]), (2, [1, 1, 1, 1, 1, 1, 1, 0, 1, 0, 0]), (1, [0]), (0, [1, 1, 1, 1, 1, 1, 1, 1])].map (toItem (Try.f17.body.getD .skip))) [(0, .slice script_b script_l script_c), (1, .bool steady), (2, .bool quiet), (8, .pointer (some ⟨b, 0, none⟩)), (9, .pointer x), (10, .pointer m0), (12, .int .i64 i)] w) (script_b : Option Addr) (script_l script_c : Nat) (steady quiet : Bool) (b : Nat) (x m0 : Option Addr) (i : Int) (o : Nat) (n : Int) (b0 : Nat) (j : Int) (t140 : Bool) (w : World) (h : storelaw_walk.B7 script_b script_l script_c steady quiet b x m0 i o n b0 j t140 w N1  R) :
    KW Try.prog 17 176 (storelaw_walk.RV R) ([(0, [1, 1, 1, 1, 1, 1, 1, 0, 1, 0, 0, 1, 0, 0, 1, 1, 1, 1, 0, 1, 1, 1, 1, 1, 1, 1, 1, 1, 1, 0, 1]), (0, [1, 1, 1, 1, 1, 1, 1, 0, 1, 0, 0, 1, 0, 0, 1, 1, 1, 1, 0, 1, 1, 1, 1, 1, 1, 1, 1, 1, 1, 1]), (1, [1]), (0, [1, 1, 1, 1, 1, 1, 1, 0, 1, 0, 0, 1, 1]), (2, [1, 1, 1, 1, 1, 1, 1, 0, 1, 0, 0]), (1, [0]), (0, [1, 1, 1, 1, 1, 1, 1, 1])].map (toItem (Try.f17.body.getD .skip))) [(0, .slice script_b script_l script_c), (1, .bool steady), (2, .bool quiet), (8, .pointer (some ⟨b, 0, none⟩)), (9, .pointer x), (10, .pointer m0), (12, .int .i64 i), (13, .pointer (some ⟨o, 0, none⟩)), (17, .int .i64 n), (18, .pointer (some ⟨b0, 0, none⟩)), (20, .int .i64 j), (140, .bool t140)] w := by
  exact block_spec Try.func17 Try.mixed (stops_cons (fun σ w h => by
      obtain ⟨script_b_, script_l_, script_c_, e0, h⟩ := dL_elim h
      obtain ⟨steady_, e1, h⟩ := dB_elim h
      obtain ⟨quiet_, e2, h⟩ := dB_elim h
      obtain ⟨b_, e3, h⟩ := dK_elim h
      obtain ⟨x_, e4, h⟩ := dP_elim h
      obtain ⟨m0_, e5, h⟩ := dP_elim h
      obtain ⟨i_, e6, h⟩ := dI_elim h
      obtain ⟨o_, e7, h⟩ := dK_elim h
      obtain ⟨b0_, e8, h⟩ := dK_elim h
      obtain ⟨j_, e9, h⟩ := dI_elim h
      obtain ⟨t157_, e10, h⟩ := dB_elim h
      exact (storelaw_walk.B8_sound hN1 script_b_ script_l_ script_c_ steady_ quiet_ b_ x_ m0_ i_ o_ b0_ j_ t157_ w h).weaken (Sub.cons (Sub.cons (Sub.cons (Sub.cons (Sub.cons (Sub.cons (Sub.cons (Sub.cons (Sub.cons (Sub.cons (Sub.cons (Sub.nil _) e10) e9) e8) e7) e6) e5) e4) e3) e2) e1) e0)) stops_nil) (Eq.mp (storelaw_walk.B7_eq script_b script_l script_c steady quiet b x m0 i o n b0 j t140 w N1  R (fun script_b_ script_l_ script_c_ steady_ quiet_ b_ x_ m0_ i_ o_ b0_ j_ t157_ w => storelaw_walk.B8 script_b_ script_l_ script_c_ steady_ quiet_ b_ x_ m0_ i_ o_ b0_ j_ t157_ w N1 R)) h)
def storelaw_walk.B4 (script_b : Option Addr) (script_l script_c : Nat) (steady quiet : Bool) (b : Nat) (x m0 : Option Addr) (i : Int) (o : Nat) (n : Int) (b0 : Nat) (j : Int) (t127 : Bool) (w : World) (N1 : Option Addr → Nat → Nat → Bool → Bool → Nat → Option Addr → Option Addr → Int → World → Prop)  (R : Int → Int → World → Prop) : Prop :=
  Bm t127 (
    R i i w) (
    Bm (decide (j < (0 : Int))) (
      R i i w) (
      LdI .i64 ⟨o, 1, none⟩ w fun x135 =>
      Bm (decide (x135 ≤ (0 : Int))) (
        storelaw_walk.B7 script_b script_l script_c steady quiet b x m0 i o n b0 j (j != (0 : Int)) w N1 R) (
        storelaw_walk.B7 script_b script_l script_c steady quiet b x m0 i o n b0 j false w N1 R)))
theorem storelaw_walk.B4_eq (script_b : Option Addr) (script_l script_c : Nat) (steady quiet : Bool) (b : Nat) (x m0 : Option Addr) (i : Int) (o : Nat) (n : Int) (b0 : Nat) (j : Int) (t127 : Bool) (w : World) (N1 : Option Addr → Nat → Nat → Bool → Bool → Nat → Option Addr → Option Addr → Int → World → Prop)  (R : Int → Int → World → Prop) (sB7 : Option Addr → Nat → Nat → Bool → Bool → Nat → Option Addr → Option Addr → Int → Nat → Int → Nat → Int → Bool → World → Prop) :
    (
  Bm t127 (
    R i i w) (
    Bm (decide (j < (0 : Int))) (
      R i i w) (
      LdI .i64 ⟨o, 1, none⟩ w fun x135 =>
      Bm (decide (x135 ≤ (0 : Int))) (
        sB7 script_b script_l script_c steady quiet b x m0 i o n b0 j (j != (0 : Int)) w) (
        sB7 script_b script_l script_c steady quiet b x m0 i o n b0 j false w)))) = kstep Try.prog 176 Try.f17.results.toList (Try.f17.body.getD .skip) (storelaw_walk.RV R) (kvc Try.prog 176 Try.f17.results.toList (Try.f17.body.getD .skip) (storelaw_walk.RV R) [([(0, [1, 1, 1, 1, 1, 1, 1, 0, 1, 0, 0, 1, 0, 0, 1, 1, 1, 1, 0, 1, 1, 1, 1, 1, 1, 1, 1, 1, 1, 0, 1]), (0, [1, 1, 1, 1, 1, 1, 1, 0, 1, 0, 0, 1, 0, 0, 1, 1, 1, 1, 0, 1, 1, 1, 1, 1, 1, 1, 1, 1, 1, 1]), (1, [1]), (0, [1, 1, 1, 1, 1, 1, 1, 0, 1, 0, 0, 1, 1]), (2, [1, 1, 1, 1, 1, 1, 1, 0, 1, 0, 0]), (1, [0]), (0, [1, 1, 1, 1, 1, 1, 1, 1])], fun σ w => dL (slotOf σ 0) fun script_b_ script_l_ script_c_ => dB (slotOf σ 1) fun steady_ => dB (slotOf σ 2) fun quiet_ => dK (slotOf σ 8) fun b_ => dP (slotOf σ 9) fun x_ => dP (slotOf σ 10) fun m0_ => dI .i64 (slotOf σ 12) fun i_ => dK (slotOf σ 13) fun o_ => dI .i64 (slotOf σ 17) fun n_ => dK (slotOf σ 18) fun b0_ => dI .i64 (slotOf σ 20) fun j_ => dB (slotOf σ 140) fun t140_ => sB7 script_b_ script_l_ script_c_ steady_ quiet_ b_ x_ m0_ i_ o_ n_ b0_ j_ t140_ w)] 2000) [(0, [1, 1, 1, 1, 1, 1, 1, 0, 1, 0, 0, 1, 0, 0, 1, 1, 1, 1, 0, 1, 1, 1, 1, 1, 1, 1, 1, 0, 1]), (0, [1, 1, 1, 1, 1, 1, 1, 0, 1, 0, 0, 1, 0, 0, 1, 1, 1, 1, 0, 1, 1, 1, 1, 1, 1, 1, 1, 1]), (1, [1]), (0, [1, 1, 1, 1, 1, 1, 1, 0, 1, 0, 0, 1, 1]), (2, [1, 1, 1, 1, 1, 1, 1, 0, 1, 0, 0]), (1, [0]), (0, [1, 1, 1, 1, 1, 1, 1, 1])] [(0, .slice script_b script_l script_c), (1, .bool steady), (2, .bool quiet), (8, .pointer (some ⟨b, 0, none⟩)), (9, .pointer x), (10, .pointer m0), (12, .int .i64 i), (13, .pointer (some ⟨o, 0, none⟩)), (17, .int .i64 n), (18, .pointer (some ⟨b0, 0, none⟩)), (20, .int .i64 j), (127, .bool t127)] w := by kernel_rfl
theorem storelaw_walk.B4_sound {R : Int → Int → World → Prop} {N1 : Option Addr → Nat → Nat → Bool → Bool → Nat → Option Addr → Option Addr → Int → World → Prop} (hN1 : ∀ script_b script_l script_c steady quiet b x m0 i w, N1 script_b script_l script_c steady quiet b x m0 i w → KW Try.prog 17 176 (storelaw_walk.RV R) ([(0, [1, 1, 1, 1, 1, 1, 1, 0, 1, 0, 0]), (2, [1, 1, 1, 1, 1, 1, 1, 0, 1, 0, 0]), (1, [0]), (0, [1, 1, 1, 1, 1, 1, 1, 1])].map (toItem (Try.f17.body.getD .skip))) [(0, .slice script_b script_l script_c), (1, .bool steady), (2, .bool quiet), (8, .pointer (some ⟨b, 0, none⟩)), (9, .pointer x), (10, .pointer m0), (12, .int .i64 i)] w) (script_b : Option Addr) (script_l script_c : Nat) (steady quiet : Bool) (b : Nat) (x m0 : Option Addr) (i : Int) (o : Nat) (n : Int) (b0 : Nat) (j : Int) (t127 : Bool) (w : World) (h : storelaw_walk.B4 script_b script_l script_c steady quiet b x m0 i o n b0 j t127 w N1  R) :
    KW Try.prog 17 176 (storelaw_walk.RV R) ([(0, [1, 1, 1, 1, 1, 1, 1, 0, 1, 0, 0, 1, 0, 0, 1, 1, 1, 1, 0, 1, 1, 1, 1, 1, 1, 1, 1, 0, 1]), (0, [1, 1, 1, 1, 1, 1, 1, 0, 1, 0, 0, 1, 0, 0, 1, 1, 1, 1, 0, 1, 1, 1, 1, 1, 1, 1, 1, 1]), (1, [1]), (0, [1, 1, 1, 1, 1, 1, 1, 0, 1, 0, 0, 1, 1]), (2, [1, 1, 1, 1, 1, 1, 1, 0, 1, 0, 0]), (1, [0]), (0, [1, 1, 1, 1, 1, 1, 1, 1])].map (toItem (Try.f17.body.getD .skip))) [(0, .slice script_b script_l script_c), (1, .bool steady), (2, .bool quiet), (8, .pointer (some ⟨b, 0, none⟩)), (9, .pointer x), (10, .pointer m0), (12, .int .i64 i), (13, .pointer (some ⟨o, 0, none⟩)), (17, .int .i64 n), (18, .pointer (some ⟨b0, 0, none⟩)), (20, .int .i64 j), (127, .bool t127)] w := by
  exact block_spec Try.func17 Try.mixed (stops_cons (fun σ w h => by
      obtain ⟨script_b_, script_l_, script_c_, e0, h⟩ := dL_elim h
      obtain ⟨steady_, e1, h⟩ := dB_elim h
      obtain ⟨quiet_, e2, h⟩ := dB_elim h
      obtain ⟨b_, e3, h⟩ := dK_elim h
      obtain ⟨x_, e4, h⟩ := dP_elim h
      obtain ⟨m0_, e5, h⟩ := dP_elim h
      obtain ⟨i_, e6, h⟩ := dI_elim h
      obtain ⟨o_, e7, h⟩ := dK_elim h
      obtain ⟨n_, e8, h⟩ := dI_elim h
      obtain ⟨b0_, e9, h⟩ := dK_elim h
      obtain ⟨j_, e10, h⟩ := dI_elim h
      obtain ⟨t140_, e11, h⟩ := dB_elim h
      exact (storelaw_walk.B7_sound hN1 script_b_ script_l_ script_c_ steady_ quiet_ b_ x_ m0_ i_ o_ n_ b0_ j_ t140_ w h).weaken (Sub.cons (Sub.cons (Sub.cons (Sub.cons (Sub.cons (Sub.cons (Sub.cons (Sub.cons (Sub.cons (Sub.cons (Sub.cons (Sub.cons (Sub.nil _) e11) e10) e9) e8) e7) e6) e5) e4) e3) e2) e1) e0)) stops_nil) (Eq.mp (storelaw_walk.B4_eq script_b script_l script_c steady quiet b x m0 i o n b0 j t127 w N1  R (fun script_b_ script_l_ script_c_ steady_ quiet_ b_ x_ m0_ i_ o_ n_ b0_ j_ t140_ w => storelaw_walk.B7 script_b_ script_l_ script_c_ steady_ quiet_ b_ x_ m0_ i_ o_ n_ b0_ j_ t140_ w N1 R)) h)
def storelaw_walk.B2 (script_b : Option Addr) (script_l script_c : Nat) (steady quiet : Bool) (b : Nat) (x m0 : Option Addr) (i : Int) (t50 : Bool) (w : World) (N1 : Option Addr → Nat → Nat → Bool → Bool → Nat → Option Addr → Option Addr → Int → World → Prop)  (R : Int → Int → World → Prop) : Prop :=
  Bm t50 (
    Pn script_b fun a =>
    (0 ≤ i ∧ i < ((script_l : Nat) : Int)) ∧
    LdI .i64 (Addr.add a (i.toNat * 6)) w fun x56_0 =>
    LdI .i64 ((Addr.add a (i.toNat * 6)).add 1) w fun x56_1 =>
    LdI .i64 ((Addr.add a (i.toNat * 6)).add 2) w fun x56_2 =>
    LdI .i64 ((Addr.add a (i.toNat * 6)).add 3) w fun x56_3 =>
    LdS ((Addr.add a (i.toNat * 6)).add 4) w fun x56_4 =>
    LdS ((Addr.add a (i.toNat * 6)).add 5) w fun x56_5 =>
    New (.cells #[.int .i64 (0 : Int), .int .i64 (0 : Int), .int .i64 (0 : Int), .int .i64 (0 : Int), .string (ByteArray.mk #[]), .string (ByteArray.mk #[])] 29) w fun o_ w1 =>
    Sts [.int .i64 x56_0, .int .i64 x56_1, .int .i64 x56_2, .int .i64 x56_3, .string x56_4, .string x56_5] ⟨o_, 0, none⟩ 0 w1 fun w2 =>
    LdI .i64 ⟨o_, 0, none⟩ w2 fun x58 =>
    Bm (x58 != (6 : Int)) (
      LdP ⟨b, 0, none⟩ w2 fun x60_0 =>
      storelaw_Mark.Call x60_0 w2 fun w3 =>
      storem_Store_Mark.Call m0 w3 fun w4 =>
      LdI .i64 ⟨o_, 0, none⟩ w4 fun x67_0 =>
      LdI .i64 ⟨o_, 1, none⟩ w4 fun x67_1 =>
      LdI .i64 ⟨o_, 2, none⟩ w4 fun x67_2 =>
      LdI .i64 ⟨o_, 3, none⟩ w4 fun x67_3 =>
      LdS ⟨o_, 4, none⟩ w4 fun x67_4 =>
      LdS ⟨o_, 5, none⟩ w4 fun x67_5 =>
      storelaw_Play.Call x m0 x67_0 x67_1 x67_2 x67_3 x67_4 x67_5 w4 fun r68_0 r68_1 w5 =>
      LdP ⟨b, 0, none⟩ w5 fun x71_0 =>
      storelaw_Steps.Call x71_0 w5 fun r72 w6 =>
      Bm (!r68_0) (
        storelaw_walk.B3 script_b script_l script_c steady quiet b x m0 i r72 true w6 N1 R) (
        Bm (!r68_1) (
          storelaw_walk.B3 script_b script_l script_c steady quiet b x m0 i r72 (r72 != (0 : Int)) w6 N1 R) (
          storelaw_walk.B3 script_b script_l script_c steady quiet b x m0 i r72 false w6 N1 R))) (
      Bm (!steady) (
        LdP ⟨b, 0, none⟩ w2 fun x99_0 =>
        storelaw_Steps.Call x99_0 w2 fun r100 w7 =>
        LdP ⟨b, 0, none⟩ w7 fun x101_0 =>
        New (.cells #[.pointer none] 25) w7 fun b0_ w8 =>
        Sts [.pointer x101_0] ⟨b0_, 0, none⟩ 0 w8 fun w9 =>
        LdP ⟨b0_, 0, none⟩ w9 fun x102_0 =>
        LdI .i64 ⟨o_, 1, none⟩ w9 fun x104 =>
        storelaw_After.Call x102_0 x104 w9 fun r105_0 w10 =>
        Sts [.pointer r105_0] ⟨b, 0, none⟩ 0 w10 fun w11 =>
        LdP ⟨b, 0, none⟩ w11 fun x107 =>
        store_Open.Call x107 w11 fun r108 w12 =>
        LdP ⟨b, 0, none⟩ w12 fun x109_0 =>
        storelaw_Steps.Call x109_0 w12 fun r110 w13 =>
        storelaw_Fits.Call r108 m0 w13 fun r113 w14 =>
        store_Store_Check.Call r108 w14 fun r115 w15 =>
        LdP ⟨b, 0, none⟩ w15 fun x116_0 =>
        storelaw_Steps.Call x116_0 w15 fun r117 w16 =>
        Bm (r110 != (0 : Int)) (
          storelaw_walk.B4 script_b script_l script_c steady quiet b r108 m0 i o_ r100 b0_ r113 true w16 N1 R) (
          Bm (!(r115.toList == (ByteArray.mk #[]).toList)) (
            storelaw_walk.B4 script_b script_l script_c steady quiet b r108 m0 i o_ r100 b0_ r113 true w16 N1 R) (
            storelaw_walk.B4 script_b script_l script_c steady quiet b r108 m0 i o_ r100 b0_ r113 (r117 != (0 : Int)) w16 N1 R))) (
        storelaw_walk.B5 script_b script_l script_c steady quiet b x m0 i w2 N1 R))) (
    Bm (decide (((script_l : Nat) : Int) < (4398046511104 : Int))) (
      R (-1 : Int) ((script_l : Nat) : Int) w) (
      R (-1 : Int) (4398046511104 : Int) w))
theorem storelaw_walk.B2_eq (script_b : Option Addr) (script_l script_c : Nat) (steady quiet : Bool) (b : Nat) (x m0 : Option Addr) (i : Int) (t50 : Bool) (w : World) (N1 : Option Addr → Nat → Nat → Bool → Bool → Nat → Option Addr → Option Addr → Int → World → Prop)  (R : Int → Int → World → Prop) (sB3 : Option Addr → Nat → Nat → Bool → Bool → Nat → Option Addr → Option Addr → Int → Int → Bool → World → Prop) (sB4 : Option Addr → Nat → Nat → Bool → Bool → Nat → Option Addr → Option Addr → Int → Nat → Int → Nat → Int → Bool → World → Prop) (sB5 : Option Addr → Nat → Nat → Bool → Bool → Nat → Option Addr → Option Addr → Int → World → Prop) :
    (
  Bm t50 (
    Pn script_b fun a =>
    (0 ≤ i ∧ i < ((script_l : Nat) : Int)) ∧
    LdI .i64 (Addr.add a (i.toNat * 6)) w fun x56_0 =>
    LdI .i64 ((Addr.add a (i.toNat * 6)).add 1) w fun x56_1 =>
    LdI .i64 ((Addr.add a (i.toNat * 6)).add 2) w fun x56_2 =>
    LdI .i64 ((Addr.add a (i.toNat * 6)).add 3) w fun x56_3 =>
    LdS ((Addr.add a (i.toNat * 6)).add 4) w fun x56_4 =>
    LdS ((Addr.add a (i.toNat * 6)).add 5) w fun x56_5 =>
    New (.cells #[.int .i64 (0 : Int), .int .i64 (0 : Int), .int .i64 (0 : Int), .int .i64 (0 : Int), .string (ByteArray.mk #[]), .string (ByteArray.mk #[])] 29) w fun o_ w1 =>
    Sts [.int .i64 x56_0, .int .i64 x56_1, .int .i64 x56_2, .int .i64 x56_3, .string x56_4, .string x56_5] ⟨o_, 0, none⟩ 0 w1 fun w2 =>
    LdI .i64 ⟨o_, 0, none⟩ w2 fun x58 =>
    Bm (x58 != (6 : Int)) (
      LdP ⟨b, 0, none⟩ w2 fun x60_0 =>
      storelaw_Mark.Call x60_0 w2 fun w3 =>
      storem_Store_Mark.Call m0 w3 fun w4 =>
      LdI .i64 ⟨o_, 0, none⟩ w4 fun x67_0 =>
      LdI .i64 ⟨o_, 1, none⟩ w4 fun x67_1 =>
      LdI .i64 ⟨o_, 2, none⟩ w4 fun x67_2 =>
      LdI .i64 ⟨o_, 3, none⟩ w4 fun x67_3 =>
      LdS ⟨o_, 4, none⟩ w4 fun x67_4 =>
      LdS ⟨o_, 5, none⟩ w4 fun x67_5 =>
      storelaw_Play.Call x m0 x67_0 x67_1 x67_2 x67_3 x67_4 x67_5 w4 fun r68_0 r68_1 w5 =>
      LdP ⟨b, 0, none⟩ w5 fun x71_0 =>
      storelaw_Steps.Call x71_0 w5 fun r72 w6 =>
      Bm (!r68_0) (
        sB3 script_b script_l script_c steady quiet b x m0 i r72 true w6) (
        Bm (!r68_1) (
          sB3 script_b script_l script_c steady quiet b x m0 i r72 (r72 != (0 : Int)) w6) (
          sB3 script_b script_l script_c steady quiet b x m0 i r72 false w6))) (
      Bm (!steady) (
        LdP ⟨b, 0, none⟩ w2 fun x99_0 =>
        storelaw_Steps.Call x99_0 w2 fun r100 w7 =>
        LdP ⟨b, 0, none⟩ w7 fun x101_0 =>
        New (.cells #[.pointer none] 25) w7 fun b0_ w8 =>
        Sts [.pointer x101_0] ⟨b0_, 0, none⟩ 0 w8 fun w9 =>
        LdP ⟨b0_, 0, none⟩ w9 fun x102_0 =>
        LdI .i64 ⟨o_, 1, none⟩ w9 fun x104 =>
        storelaw_After.Call x102_0 x104 w9 fun r105_0 w10 =>
        Sts [.pointer r105_0] ⟨b, 0, none⟩ 0 w10 fun w11 =>
        LdP ⟨b, 0, none⟩ w11 fun x107 =>
        store_Open.Call x107 w11 fun r108 w12 =>
        LdP ⟨b, 0, none⟩ w12 fun x109_0 =>
        storelaw_Steps.Call x109_0 w12 fun r110 w13 =>
        storelaw_Fits.Call r108 m0 w13 fun r113 w14 =>
        store_Store_Check.Call r108 w14 fun r115 w15 =>
        LdP ⟨b, 0, none⟩ w15 fun x116_0 =>
        storelaw_Steps.Call x116_0 w15 fun r117 w16 =>
        Bm (r110 != (0 : Int)) (
          sB4 script_b script_l script_c steady quiet b r108 m0 i o_ r100 b0_ r113 true w16) (
          Bm (!(r115.toList == (ByteArray.mk #[]).toList)) (
            sB4 script_b script_l script_c steady quiet b r108 m0 i o_ r100 b0_ r113 true w16) (
            sB4 script_b script_l script_c steady quiet b r108 m0 i o_ r100 b0_ r113 (r117 != (0 : Int)) w16))) (
        sB5 script_b script_l script_c steady quiet b x m0 i w2))) (
    Bm (decide (((script_l : Nat) : Int) < (4398046511104 : Int))) (
      R (-1 : Int) ((script_l : Nat) : Int) w) (
      R (-1 : Int) (4398046511104 : Int) w))) = kstep Try.prog 176 Try.f17.results.toList (Try.f17.body.getD .skip) (storelaw_walk.RV R) (kvc Try.prog 176 Try.f17.results.toList (Try.f17.body.getD .skip) (storelaw_walk.RV R) [([(0, [1, 1, 1, 1, 1, 1, 1, 0, 1, 0, 0, 1, 0, 0, 1, 1, 0, 1, 1, 1, 1, 0, 1]), (0, [1, 1, 1, 1, 1, 1, 1, 0, 1, 0, 0, 1, 0, 0, 1, 1, 0, 1, 1, 1, 1, 1]), (1, [1]), (0, [1, 1, 1, 1, 1, 1, 1, 0, 1, 0, 0, 1, 1]), (2, [1, 1, 1, 1, 1, 1, 1, 0, 1, 0, 0]), (1, [0]), (0, [1, 1, 1, 1, 1, 1, 1, 1])], fun σ w => dL (slotOf σ 0) fun script_b_ script_l_ script_c_ => dB (slotOf σ 1) fun steady_ => dB (slotOf σ 2) fun quiet_ => dK (slotOf σ 8) fun b_ => dP (slotOf σ 9) fun x_ => dP (slotOf σ 10) fun m0_ => dI .i64 (slotOf σ 12) fun i_ => dI .i64 (slotOf σ 16) fun n_ => dB (slotOf σ 82) fun t82_ => sB3 script_b_ script_l_ script_c_ steady_ quiet_ b_ x_ m0_ i_ n_ t82_ w),
    ([(0, [1, 1, 1, 1, 1, 1, 1, 0, 1, 0, 0, 1, 0, 0, 1, 1, 1, 1, 0, 1, 1, 1, 1, 1, 1, 1, 1, 0, 1]), (0, [1, 1, 1, 1, 1, 1, 1, 0, 1, 0, 0, 1, 0, 0, 1, 1, 1, 1, 0, 1, 1, 1, 1, 1, 1, 1, 1, 1]), (1, [1]), (0, [1, 1, 1, 1, 1, 1, 1, 0, 1, 0, 0, 1, 1]), (2, [1, 1, 1, 1, 1, 1, 1, 0, 1, 0, 0]), (1, [0]), (0, [1, 1, 1, 1, 1, 1, 1, 1])], fun σ w => dL (slotOf σ 0) fun script_b_ script_l_ script_c_ => dB (slotOf σ 1) fun steady_ => dB (slotOf σ 2) fun quiet_ => dK (slotOf σ 8) fun b_ => dP (slotOf σ 9) fun x_ => dP (slotOf σ 10) fun m0_ => dI .i64 (slotOf σ 12) fun i_ => dK (slotOf σ 13) fun o_ => dI .i64 (slotOf σ 17) fun n_ => dK (slotOf σ 18) fun b0_ => dI .i64 (slotOf σ 20) fun j_ => dB (slotOf σ 127) fun t127_ => sB4 script_b_ script_l_ script_c_ steady_ quiet_ b_ x_ m0_ i_ o_ n_ b0_ j_ t127_ w),
    ([(0, [1, 1, 1, 1, 1, 1, 1, 0, 1, 0, 0, 1, 1]), (2, [1, 1, 1, 1, 1, 1, 1, 0, 1, 0, 0]), (1, [0]), (0, [1, 1, 1, 1, 1, 1, 1, 1])], fun σ w => dL (slotOf σ 0) fun script_b_ script_l_ script_c_ => dB (slotOf σ 1) fun steady_ => dB (slotOf σ 2) fun quiet_ => dK (slotOf σ 8) fun b_ => dP (slotOf σ 9) fun x_ => dP (slotOf σ 10) fun m0_ => dI .i64 (slotOf σ 12) fun i_ => sB5 script_b_ script_l_ script_c_ steady_ quiet_ b_ x_ m0_ i_ w)] 2000) [(0, [1, 1, 1, 1, 1, 1, 1, 0, 1, 0, 0, 0, 1]), (0, [1, 1, 1, 1, 1, 1, 1, 0, 1, 0, 0, 1]), (2, [1, 1, 1, 1, 1, 1, 1, 0, 1, 0, 0]), (1, [0]), (0, [1, 1, 1, 1, 1, 1, 1, 1])] [(0, .slice script_b script_l script_c), (1, .bool steady), (2, .bool quiet), (8, .pointer (some ⟨b, 0, none⟩)), (9, .pointer x), (10, .pointer m0), (12, .int .i64 i), (50, .bool t50)] w := by kernel_rfl
theorem storelaw_walk.B2_sound {R : Int → Int → World → Prop} {N1 : Option Addr → Nat → Nat → Bool → Bool → Nat → Option Addr → Option Addr → Int → World → Prop} (hN1 : ∀ script_b script_l script_c steady quiet b x m0 i w, N1 script_b script_l script_c steady quiet b x m0 i w → KW Try.prog 17 176 (storelaw_walk.RV R) ([(0, [1, 1, 1, 1, 1, 1, 1, 0, 1, 0, 0]), (2, [1, 1, 1, 1, 1, 1, 1, 0, 1, 0, 0]), (1, [0]), (0, [1, 1, 1, 1, 1, 1, 1, 1])].map (toItem (Try.f17.body.getD .skip))) [(0, .slice script_b script_l script_c), (1, .bool steady), (2, .bool quiet), (8, .pointer (some ⟨b, 0, none⟩)), (9, .pointer x), (10, .pointer m0), (12, .int .i64 i)] w) (script_b : Option Addr) (script_l script_c : Nat) (steady quiet : Bool) (b : Nat) (x m0 : Option Addr) (i : Int) (t50 : Bool) (w : World) (h : storelaw_walk.B2 script_b script_l script_c steady quiet b x m0 i t50 w N1  R) :
    KW Try.prog 17 176 (storelaw_walk.RV R) ([(0, [1, 1, 1, 1, 1, 1, 1, 0, 1, 0, 0, 0, 1]), (0, [1, 1, 1, 1, 1, 1, 1, 0, 1, 0, 0, 1]), (2, [1, 1, 1, 1, 1, 1, 1, 0, 1, 0, 0]), (1, [0]), (0, [1, 1, 1, 1, 1, 1, 1, 1])].map (toItem (Try.f17.body.getD .skip))) [(0, .slice script_b script_l script_c), (1, .bool steady), (2, .bool quiet), (8, .pointer (some ⟨b, 0, none⟩)), (9, .pointer x), (10, .pointer m0), (12, .int .i64 i), (50, .bool t50)] w := by
  exact block_spec Try.func17 Try.mixed (stops_cons (fun σ w h => by
      obtain ⟨script_b_, script_l_, script_c_, e0, h⟩ := dL_elim h
      obtain ⟨steady_, e1, h⟩ := dB_elim h
      obtain ⟨quiet_, e2, h⟩ := dB_elim h
      obtain ⟨b_, e3, h⟩ := dK_elim h
      obtain ⟨x_, e4, h⟩ := dP_elim h
      obtain ⟨m0_, e5, h⟩ := dP_elim h
      obtain ⟨i_, e6, h⟩ := dI_elim h
      obtain ⟨n_, e7, h⟩ := dI_elim h
      obtain ⟨t82_, e8, h⟩ := dB_elim h
      exact (storelaw_walk.B3_sound hN1 script_b_ script_l_ script_c_ steady_ quiet_ b_ x_ m0_ i_ n_ t82_ w h).weaken (Sub.cons (Sub.cons (Sub.cons (Sub.cons (Sub.cons (Sub.cons (Sub.cons (Sub.cons (Sub.cons (Sub.nil _) e8) e7) e6) e5) e4) e3) e2) e1) e0)) (stops_cons (fun σ w h => by
      obtain ⟨script_b_, script_l_, script_c_, e0, h⟩ := dL_elim h
      obtain ⟨steady_, e1, h⟩ := dB_elim h
      obtain ⟨quiet_, e2, h⟩ := dB_elim h
      obtain ⟨b_, e3, h⟩ := dK_elim h
      obtain ⟨x_, e4, h⟩ := dP_elim h
      obtain ⟨m0_, e5, h⟩ := dP_elim h
      obtain ⟨i_, e6, h⟩ := dI_elim h
      obtain ⟨o_, e7, h⟩ := dK_elim h
      obtain ⟨n_, e8, h⟩ := dI_elim h
      obtain ⟨b0_, e9, h⟩ := dK_elim h
      obtain ⟨j_, e10, h⟩ := dI_elim h
      obtain ⟨t127_, e11, h⟩ := dB_elim h
      exact (storelaw_walk.B4_sound hN1 script_b_ script_l_ script_c_ steady_ quiet_ b_ x_ m0_ i_ o_ n_ b0_ j_ t127_ w h).weaken (Sub.cons (Sub.cons (Sub.cons (Sub.cons (Sub.cons (Sub.cons (Sub.cons (Sub.cons (Sub.cons (Sub.cons (Sub.cons (Sub.cons (Sub.nil _) e11) e10) e9) e8) e7) e6) e5) e4) e3) e2) e1) e0)) (stops_cons (fun σ w h => by
      obtain ⟨script_b_, script_l_, script_c_, e0, h⟩ := dL_elim h
      obtain ⟨steady_, e1, h⟩ := dB_elim h
      obtain ⟨quiet_, e2, h⟩ := dB_elim h
      obtain ⟨b_, e3, h⟩ := dK_elim h
      obtain ⟨x_, e4, h⟩ := dP_elim h
      obtain ⟨m0_, e5, h⟩ := dP_elim h
      obtain ⟨i_, e6, h⟩ := dI_elim h
      exact (storelaw_walk.B5_sound hN1 script_b_ script_l_ script_c_ steady_ quiet_ b_ x_ m0_ i_ w h).weaken (Sub.cons (Sub.cons (Sub.cons (Sub.cons (Sub.cons (Sub.cons (Sub.cons (Sub.nil _) e6) e5) e4) e3) e2) e1) e0)) stops_nil))) (Eq.mp (storelaw_walk.B2_eq script_b script_l script_c steady quiet b x m0 i t50 w N1  R (fun script_b_ script_l_ script_c_ steady_ quiet_ b_ x_ m0_ i_ n_ t82_ w => storelaw_walk.B3 script_b_ script_l_ script_c_ steady_ quiet_ b_ x_ m0_ i_ n_ t82_ w N1 R) (fun script_b_ script_l_ script_c_ steady_ quiet_ b_ x_ m0_ i_ o_ n_ b0_ j_ t127_ w => storelaw_walk.B4 script_b_ script_l_ script_c_ steady_ quiet_ b_ x_ m0_ i_ o_ n_ b0_ j_ t127_ w N1 R) (fun script_b_ script_l_ script_c_ steady_ quiet_ b_ x_ m0_ i_ w => storelaw_walk.B5 script_b_ script_l_ script_c_ steady_ quiet_ b_ x_ m0_ i_ w N1 R)) h)
def storelaw_walk.L1b (script_b : Option Addr) (script_l script_c : Nat) (steady quiet : Bool) (b : Nat) (x m0 : Option Addr) (i : Int) (w : World)  (N1 : Option Addr → Nat → Nat → Bool → Bool → Nat → Option Addr → Option Addr → Int → World → Prop) (R : Int → Int → World → Prop) : Prop :=
  Bm (decide (i < ((script_l : Nat) : Int))) (
    storelaw_walk.B2 script_b script_l script_c steady quiet b x m0 i (decide (i < (4398046511104 : Int))) w N1 R) (
    storelaw_walk.B2 script_b script_l script_c steady quiet b x m0 i false w N1 R)
theorem storelaw_walk.L1b_eq (script_b : Option Addr) (script_l script_c : Nat) (steady quiet : Bool) (b : Nat) (x m0 : Option Addr) (i : Int) (w : World)  (N1 : Option Addr → Nat → Nat → Bool → Bool → Nat → Option Addr → Option Addr → Int → World → Prop) (R : Int → Int → World → Prop) (sB2 : Option Addr → Nat → Nat → Bool → Bool → Nat → Option Addr → Option Addr → Int → Bool → World → Prop) :
    (
  Bm (decide (i < ((script_l : Nat) : Int))) (
    sB2 script_b script_l script_c steady quiet b x m0 i (decide (i < (4398046511104 : Int))) w) (
    sB2 script_b script_l script_c steady quiet b x m0 i false w)) = kstep Try.prog 176 Try.f17.results.toList (Try.f17.body.getD .skip) (storelaw_walk.RV R) (kvc Try.prog 176 Try.f17.results.toList (Try.f17.body.getD .skip) (storelaw_walk.RV R) [([(0, [1, 1, 1, 1, 1, 1, 1, 0, 1, 0, 0, 0, 1]), (0, [1, 1, 1, 1, 1, 1, 1, 0, 1, 0, 0, 1]), (2, [1, 1, 1, 1, 1, 1, 1, 0, 1, 0, 0]), (1, [0]), (0, [1, 1, 1, 1, 1, 1, 1, 1])], fun σ w => dL (slotOf σ 0) fun script_b_ script_l_ script_c_ => dB (slotOf σ 1) fun steady_ => dB (slotOf σ 2) fun quiet_ => dK (slotOf σ 8) fun b_ => dP (slotOf σ 9) fun x_ => dP (slotOf σ 10) fun m0_ => dI .i64 (slotOf σ 12) fun i_ => dB (slotOf σ 50) fun t50_ => sB2 script_b_ script_l_ script_c_ steady_ quiet_ b_ x_ m0_ i_ t50_ w)] 2000) [(0, [1, 1, 1, 1, 1, 1, 1, 0, 1, 0, 0]), (2, [1, 1, 1, 1, 1, 1, 1, 0, 1, 0, 0]), (1, [0]), (0, [1, 1, 1, 1, 1, 1, 1, 1])] [(0, .slice script_b script_l script_c), (1, .bool steady), (2, .bool quiet), (8, .pointer (some ⟨b, 0, none⟩)), (9, .pointer x), (10, .pointer m0), (12, .int .i64 i)] w := by kernel_rfl
theorem storelaw_walk.L1b_sound {R : Int → Int → World → Prop} {N1 : Option Addr → Nat → Nat → Bool → Bool → Nat → Option Addr → Option Addr → Int → World → Prop} (hN1 : ∀ script_b script_l script_c steady quiet b x m0 i w, N1 script_b script_l script_c steady quiet b x m0 i w → KW Try.prog 17 176 (storelaw_walk.RV R) ([(0, [1, 1, 1, 1, 1, 1, 1, 0, 1, 0, 0]), (2, [1, 1, 1, 1, 1, 1, 1, 0, 1, 0, 0]), (1, [0]), (0, [1, 1, 1, 1, 1, 1, 1, 1])].map (toItem (Try.f17.body.getD .skip))) [(0, .slice script_b script_l script_c), (1, .bool steady), (2, .bool quiet), (8, .pointer (some ⟨b, 0, none⟩)), (9, .pointer x), (10, .pointer m0), (12, .int .i64 i)] w) (script_b : Option Addr) (script_l script_c : Nat) (steady quiet : Bool) (b : Nat) (x m0 : Option Addr) (i : Int) (w : World) (h : storelaw_walk.L1b script_b script_l script_c steady quiet b x m0 i w  N1 R) :
    KW Try.prog 17 176 (storelaw_walk.RV R) ([(0, [1, 1, 1, 1, 1, 1, 1, 0, 1, 0, 0]), (2, [1, 1, 1, 1, 1, 1, 1, 0, 1, 0, 0]), (1, [0]), (0, [1, 1, 1, 1, 1, 1, 1, 1])].map (toItem (Try.f17.body.getD .skip))) [(0, .slice script_b script_l script_c), (1, .bool steady), (2, .bool quiet), (8, .pointer (some ⟨b, 0, none⟩)), (9, .pointer x), (10, .pointer m0), (12, .int .i64 i)] w := by
  exact block_spec Try.func17 Try.mixed (stops_cons (fun σ w h => by
      obtain ⟨script_b_, script_l_, script_c_, e0, h⟩ := dL_elim h
      obtain ⟨steady_, e1, h⟩ := dB_elim h
      obtain ⟨quiet_, e2, h⟩ := dB_elim h
      obtain ⟨b_, e3, h⟩ := dK_elim h
      obtain ⟨x_, e4, h⟩ := dP_elim h
      obtain ⟨m0_, e5, h⟩ := dP_elim h
      obtain ⟨i_, e6, h⟩ := dI_elim h
      obtain ⟨t50_, e7, h⟩ := dB_elim h
      exact (storelaw_walk.B2_sound hN1 script_b_ script_l_ script_c_ steady_ quiet_ b_ x_ m0_ i_ t50_ w h).weaken (Sub.cons (Sub.cons (Sub.cons (Sub.cons (Sub.cons (Sub.cons (Sub.cons (Sub.cons (Sub.nil _) e7) e6) e5) e4) e3) e2) e1) e0)) stops_nil) (Eq.mp (storelaw_walk.L1b_eq script_b script_l script_c steady quiet b x m0 i w  N1 R (fun script_b_ script_l_ script_c_ steady_ quiet_ b_ x_ m0_ i_ t50_ w => storelaw_walk.B2 script_b_ script_l_ script_c_ steady_ quiet_ b_ x_ m0_ i_ t50_ w N1 R)) h)
def storelaw_walk.L1 (script_b : Option Addr) (script_l script_c : Nat) (steady quiet : Bool) (b : Nat) (x m0 : Option Addr) (i : Int) (w : World)  (R : Int → Int → World → Prop) : Prop :=
  ∃ (I : Nat → Option Addr → Nat → Nat → Bool → Bool → Nat → Option Addr → Option Addr → Int → World → Prop) (m : Nat), I m script_b script_l script_c steady quiet b x m0 i w ∧ ∀ m script_b script_l script_c steady quiet b x m0 i w, I m script_b script_l script_c steady quiet b x m0 i w → storelaw_walk.L1b script_b script_l script_c steady quiet b x m0 i w  (fun script_b' script_l' script_c' steady' quiet' b' x' m0' i' w' => ∃ m', m' < m ∧ I m' script_b' script_l' script_c' steady' quiet' b' x' m0' i' w') R
theorem storelaw_walk.L1_sound {R : Int → Int → World → Prop}  (script_b : Option Addr) (script_l script_c : Nat) (steady quiet : Bool) (b : Nat) (x m0 : Option Addr) (i : Int) (w : World) (h : storelaw_walk.L1 script_b script_l script_c steady quiet b x m0 i w  R) :
    KW Try.prog 17 176 (storelaw_walk.RV R) ([(0, [1, 1, 1, 1, 1, 1, 1, 0, 1, 0, 0]), (2, [1, 1, 1, 1, 1, 1, 1, 0, 1, 0, 0]), (1, [0]), (0, [1, 1, 1, 1, 1, 1, 1, 1])].map (toItem (Try.f17.body.getD .skip))) [(0, .slice script_b script_l script_c), (1, .bool steady), (2, .bool quiet), (8, .pointer (some ⟨b, 0, none⟩)), (9, .pointer x), (10, .pointer m0), (12, .int .i64 i)] w := by
  obtain ⟨I, m, h0, hr⟩ := h
  refine KW.loop (fun m σ w => ∃ (script_b : Option Addr) (script_l script_c : Nat) (steady quiet : Bool) (b : Nat) (x m0 : Option Addr) (i : Int), σ = [(0, .slice script_b script_l script_c), (1, .bool steady), (2, .bool quiet), (8, .pointer (some ⟨b, 0, none⟩)), (9, .pointer x), (10, .pointer m0), (12, .int .i64 i)] ∧ I m script_b script_l script_c steady quiet b x m0 i w) ?_ m _ w ⟨script_b, script_l, script_c, steady, quiet, b, x, m0, i, rfl, h0⟩
  rintro m ih σ w ⟨script_b, script_l, script_c, steady, quiet, b, x, m0, i, rfl, hI⟩
  exact storelaw_walk.L1b_sound  (N1 := fun script_b' script_l' script_c' steady' quiet' b' x' m0' i' w' => ∃ m', m' < m ∧ I m' script_b' script_l' script_c' steady' quiet' b' x' m0' i' w') (fun script_b' script_l' script_c' steady' quiet' b' x' m0' i' w' hx => by obtain ⟨m', hlt, hI'⟩ := hx; exact ih m' hlt _ w' ⟨script_b', script_l', script_c', steady', quiet', b', x', m0', i', rfl, hI'⟩) script_b script_l script_c steady quiet b x m0 i w (hr m script_b script_l script_c steady quiet b x m0 i w hI)
def storelaw_walk.B1 (script_b : Option Addr) (script_l script_c : Nat) (steady quiet : Bool) (b : Nat) (x m0 : Option Addr) (t42 : Bool) (w : World)   (R : Int → Int → World → Prop) : Prop :=
  Bm t42 (
    R (0 : Int) (0 : Int) w) (
    storelaw_walk.L1 script_b script_l script_c steady quiet b x m0 (0 : Int) w  R)
theorem storelaw_walk.B1_eq (script_b : Option Addr) (script_l script_c : Nat) (steady quiet : Bool) (b : Nat) (x m0 : Option Addr) (t42 : Bool) (w : World)   (R : Int → Int → World → Prop) (sL1 : Option Addr → Nat → Nat → Bool → Bool → Nat → Option Addr → Option Addr → Int → World → Prop) :
    (
  Bm t42 (
    R (0 : Int) (0 : Int) w) (
    sL1 script_b script_l script_c steady quiet b x m0 (0 : Int) w)) = kstep Try.prog 176 Try.f17.results.toList (Try.f17.body.getD .skip) (storelaw_walk.RV R) (kvc Try.prog 176 Try.f17.results.toList (Try.f17.body.getD .skip) (storelaw_walk.RV R) [([(0, [1, 1, 1, 1, 1, 1, 1, 0, 1, 0, 0]), (2, [1, 1, 1, 1, 1, 1, 1, 0, 1, 0, 0]), (1, [0]), (0, [1, 1, 1, 1, 1, 1, 1, 1])], fun σ w => dL (slotOf σ 0) fun script_b_ script_l_ script_c_ => dB (slotOf σ 1) fun steady_ => dB (slotOf σ 2) fun quiet_ => dK (slotOf σ 8) fun b_ => dP (slotOf σ 9) fun x_ => dP (slotOf σ 10) fun m0_ => dI .i64 (slotOf σ 12) fun i_ => sL1 script_b_ script_l_ script_c_ steady_ quiet_ b_ x_ m0_ i_ w)] 2000) [(0, [1, 1, 1, 1, 1, 1, 0, 1]), (0, [1, 1, 1, 1, 1, 1, 1])] [(0, .slice script_b script_l script_c), (1, .bool steady), (2, .bool quiet), (8, .pointer (some ⟨b, 0, none⟩)), (9, .pointer x), (10, .pointer m0), (42, .bool t42)] w := by kernel_rfl
theorem storelaw_walk.B1_sound {R : Int → Int → World → Prop}  (script_b : Option Addr) (script_l script_c : Nat) (steady quiet : Bool) (b : Nat) (x m0 : Option Addr) (t42 : Bool) (w : World) (h : storelaw_walk.B1 script_b script_l script_c steady quiet b x m0 t42 w   R) :
    KW Try.prog 17 176 (storelaw_walk.RV R) ([(0, [1, 1, 1, 1, 1, 1, 0, 1]), (0, [1, 1, 1, 1, 1, 1, 1])].map (toItem (Try.f17.body.getD .skip))) [(0, .slice script_b script_l script_c), (1, .bool steady), (2, .bool quiet), (8, .pointer (some ⟨b, 0, none⟩)), (9, .pointer x), (10, .pointer m0), (42, .bool t42)] w := by
  exact block_spec Try.func17 Try.mixed (stops_cons (fun σ w h => by
      obtain ⟨script_b_, script_l_, script_c_, e0, h⟩ := dL_elim h
      obtain ⟨steady_, e1, h⟩ := dB_elim h
      obtain ⟨quiet_, e2, h⟩ := dB_elim h
      obtain ⟨b_, e3, h⟩ := dK_elim h
      obtain ⟨x_, e4, h⟩ := dP_elim h
      obtain ⟨m0_, e5, h⟩ := dP_elim h
      obtain ⟨i_, e6, h⟩ := dI_elim h
      exact (storelaw_walk.L1_sound  script_b_ script_l_ script_c_ steady_ quiet_ b_ x_ m0_ i_ w h).weaken (Sub.cons (Sub.cons (Sub.cons (Sub.cons (Sub.cons (Sub.cons (Sub.cons (Sub.nil _) e6) e5) e4) e3) e2) e1) e0)) stops_nil) (Eq.mp (storelaw_walk.B1_eq script_b script_l script_c steady quiet b x m0 t42 w   R (fun script_b_ script_l_ script_c_ steady_ quiet_ b_ x_ m0_ i_ w => storelaw_walk.L1 script_b_ script_l_ script_c_ steady_ quiet_ b_ x_ m0_ i_ w  R)) h)
def storelaw_walk.B0 (script_b : Option Addr) (script_l script_c : Nat) (steady quiet : Bool) (w : World)   (R : Int → Int → World → Prop) : Prop :=
  storelaw_Ground.Call  w fun r25_0 w1 =>
  New (.cells #[.pointer none] 25) w1 fun b_ w2 =>
  Sts [.pointer r25_0] ⟨b_, 0, none⟩ 0 w2 fun w3 =>
  LdP ⟨b_, 0, none⟩ w3 fun x27 =>
  store_New.Call x27 w3 fun r28 w4 =>
  storem_New.Call  w4 fun r29 w5 =>
  LdP ⟨b_, 0, none⟩ w5 fun x30_0 =>
  storelaw_Steps.Call x30_0 w5 fun r31 w6 =>
  Bm (r31 != (0 : Int)) (
    R (0 : Int) (0 : Int) w6) (
    Bm (!quiet) (
      LdP ⟨b_, 0, none⟩ w6 fun x37_0 =>
      storelaw_Seen.Call x37_0 r28 r29 (0 : Int) w6 fun r40 w7 =>
      storelaw_walk.B1 script_b script_l script_c steady quiet b_ r28 r29 (!r40) w7  R) (
      storelaw_walk.B1 script_b script_l script_c steady quiet b_ r28 r29 false w6  R))
theorem storelaw_walk.B0_eq (script_b : Option Addr) (script_l script_c : Nat) (steady quiet : Bool) (w : World)   (R : Int → Int → World → Prop) (sB1 : Option Addr → Nat → Nat → Bool → Bool → Nat → Option Addr → Option Addr → Bool → World → Prop) :
    (
  storelaw_Ground.Call  w fun r25_0 w1 =>
  New (.cells #[.pointer none] 25) w1 fun b_ w2 =>
  Sts [.pointer r25_0] ⟨b_, 0, none⟩ 0 w2 fun w3 =>
  LdP ⟨b_, 0, none⟩ w3 fun x27 =>
  store_New.Call x27 w3 fun r28 w4 =>
  storem_New.Call  w4 fun r29 w5 =>
  LdP ⟨b_, 0, none⟩ w5 fun x30_0 =>
  storelaw_Steps.Call x30_0 w5 fun r31 w6 =>
  Bm (r31 != (0 : Int)) (
    R (0 : Int) (0 : Int) w6) (
    Bm (!quiet) (
      LdP ⟨b_, 0, none⟩ w6 fun x37_0 =>
      storelaw_Seen.Call x37_0 r28 r29 (0 : Int) w6 fun r40 w7 =>
      sB1 script_b script_l script_c steady quiet b_ r28 r29 (!r40) w7) (
      sB1 script_b script_l script_c steady quiet b_ r28 r29 false w6))) = kstep Try.prog 176 Try.f17.results.toList (Try.f17.body.getD .skip) (storelaw_walk.RV R) (kvc Try.prog 176 Try.f17.results.toList (Try.f17.body.getD .skip) (storelaw_walk.RV R) [([(0, [1, 1, 1, 1, 1, 1, 0, 1]), (0, [1, 1, 1, 1, 1, 1, 1])], fun σ w => dL (slotOf σ 0) fun script_b_ script_l_ script_c_ => dB (slotOf σ 1) fun steady_ => dB (slotOf σ 2) fun quiet_ => dK (slotOf σ 8) fun b_ => dP (slotOf σ 9) fun x_ => dP (slotOf σ 10) fun m0_ => dB (slotOf σ 42) fun t42_ => sB1 script_b_ script_l_ script_c_ steady_ quiet_ b_ x_ m0_ t42_ w)] 2000) [(0, [])] [(0, .slice script_b script_l script_c), (1, .bool steady), (2, .bool quiet)] w := by kernel_rfl
theorem storelaw_walk.B0_sound {R : Int → Int → World → Prop}  (script_b : Option Addr) (script_l script_c : Nat) (steady quiet : Bool) (w : World) (h : storelaw_walk.B0 script_b script_l script_c steady quiet w   R) :
    KW Try.prog 17 176 (storelaw_walk.RV R) ([(0, [])].map (toItem (Try.f17.body.getD .skip))) [(0, .slice script_b script_l script_c), (1, .bool steady), (2, .bool quiet)] w := by
  exact block_spec Try.func17 Try.mixed (stops_cons (fun σ w h => by
      obtain ⟨script_b_, script_l_, script_c_, e0, h⟩ := dL_elim h
      obtain ⟨steady_, e1, h⟩ := dB_elim h
      obtain ⟨quiet_, e2, h⟩ := dB_elim h
      obtain ⟨b_, e3, h⟩ := dK_elim h
      obtain ⟨x_, e4, h⟩ := dP_elim h
      obtain ⟨m0_, e5, h⟩ := dP_elim h
      obtain ⟨t42_, e6, h⟩ := dB_elim h
      exact (storelaw_walk.B1_sound  script_b_ script_l_ script_c_ steady_ quiet_ b_ x_ m0_ t42_ w h).weaken (Sub.cons (Sub.cons (Sub.cons (Sub.cons (Sub.cons (Sub.cons (Sub.cons (Sub.nil _) e6) e5) e4) e3) e2) e1) e0)) stops_nil) (Eq.mp (storelaw_walk.B0_eq script_b script_l script_c steady quiet w   R (fun script_b_ script_l_ script_c_ steady_ quiet_ b_ x_ m0_ t42_ w => storelaw_walk.B1 script_b_ script_l_ script_c_ steady_ quiet_ b_ x_ m0_ t42_ w  R)) h)
theorem storelaw_walk.sound (script_b : Option Addr) (script_l script_c : Nat) (steady quiet : Bool) (w : World) (R : Int → Int → World → Prop) (h : storelaw_walk.B0 script_b script_l script_c steady quiet w R) : storelaw_walk.Call script_b script_l script_c steady quiet w R := by
  have hc := calls_of_block (args := #[.slice script_b script_l script_c, .bool steady, .bool quiet]) Try.func17 (body := (Try.f17.body.getD .skip)) (by kernel_rfl) (by kernel_rfl) (args_slot _) (storelaw_walk.B0_sound script_b script_l script_c steady quiet w h)
  exact hc.mono fun e w' he => by
    obtain ⟨v, rfl, hv⟩ := he
    exact storelaw_walk.RV_elim hv
end Go.Proofs.Qxb6500432a
