import Derived.Test.Qxb6500432aSig
set_option maxRecDepth 100000
set_option linter.unusedVariables false
open Go.Vc
namespace Go.Proofs.Qxb6500432a
def storelaw_SameSnap.B0 (x m0 : Option Addr) (w : World)   (R : Bool → World → Prop) : Prop :=
  store_Store_Snap.Call x w fun r13_0 r13_1 r13_2 w1 =>
  storem_Store_Snap.Call m0 w1 fun r19_0 r19_1 r19_2 w2 =>
  Bm (r13_0 == r19_0) (
    Bm (r13_1 == r19_1) (
      R (r13_2.toList == r19_2.toList) w2) (
      R false w2)) (
    R false w2)
theorem storelaw_SameSnap.B0_eq (x m0 : Option Addr) (w : World)   (R : Bool → World → Prop)  :
    (
  store_Store_Snap.Call x w fun r13_0 r13_1 r13_2 w1 =>
  storem_Store_Snap.Call m0 w1 fun r19_0 r19_1 r19_2 w2 =>
  Bm (r13_0 == r19_0) (
    Bm (r13_1 == r19_1) (
      R (r13_2.toList == r19_2.toList) w2) (
      R false w2)) (
    R false w2)) = kstep Try.prog 36 Try.f54.results.toList (Try.f54.body.getD .skip) (storelaw_SameSnap.RV R) (kvc Try.prog 36 Try.f54.results.toList (Try.f54.body.getD .skip) (storelaw_SameSnap.RV R) [] 2000) [(0, [])] [(0, .pointer x), (1, .pointer m0)] w := by kernel_rfl
theorem storelaw_SameSnap.B0_sound {R : Bool → World → Prop}  (x m0 : Option Addr) (w : World) (h : storelaw_SameSnap.B0 x m0 w   R) :
    KW Try.prog 54 36 (storelaw_SameSnap.RV R) ([(0, [])].map (toItem (Try.f54.body.getD .skip))) [(0, .pointer x), (1, .pointer m0)] w := by
  exact block_spec Try.func54 Try.mixed stops_nil (Eq.mp (storelaw_SameSnap.B0_eq x m0 w   R ) h)
theorem storelaw_SameSnap.sound (x m0 : Option Addr) (w : World) (R : Bool → World → Prop) (h : storelaw_SameSnap.B0 x m0 w R) : storelaw_SameSnap.Call x m0 w R := by
  have hc := calls_of_block (args := #[.pointer x, .pointer m0]) Try.func54 (body := (Try.f54.body.getD .skip)) (by kernel_rfl) (by kernel_rfl) (args_slot _) (storelaw_SameSnap.B0_sound x m0 w h)
  exact hc.mono fun e w' he => by
    obtain ⟨v, rfl, hv⟩ := he
    exact storelaw_SameSnap.RV_elim hv
def diskm_Disk_After.B2 (d : Option Addr) (k : Int) (n : Nat) (j : Int) (w : World) (N1 : Option Addr → Int → Nat → Int → World → Prop)  (R : Option Addr → World → Prop) : Prop :=
  N1 d k n (IntKind.i64.wrap (j + (1 : Int))) w
theorem diskm_Disk_After.B2_eq (d : Option Addr) (k : Int) (n : Nat) (j : Int) (w : World) (N1 : Option Addr → Int → Nat → Int → World → Prop)  (R : Option Addr → World → Prop)  :
    (
  N1 d k n (IntKind.i64.wrap (j + (1 : Int))) w) = kstep Try.prog 86 Try.f55.results.toList (Try.f55.body.getD .skip) (diskm_Disk_After.RV R) (kvc Try.prog 86 Try.f55.results.toList (Try.f55.body.getD .skip) (diskm_Disk_After.RV R) [([(0, [1, 1, 0, 1, 0, 0]), (2, [1, 1, 0, 1, 0, 0]), (1, [0]), (0, [1, 1, 1])], fun σ w => dP (slotOf σ 0) fun d_ => dI .i64 (slotOf σ 1) fun k_ => dK (slotOf σ 5) fun n_ => dI .i64 (slotOf σ 6) fun j_ => N1 d_ k_ n_ j_ w)] 2000) [(0, [1, 1, 0, 1, 0, 0, 1, 1]), (2, [1, 1, 0, 1, 0, 0]), (1, [0]), (0, [1, 1, 1])] [(0, .pointer d), (1, .int .i64 k), (5, .pointer (some ⟨n, 0, none⟩)), (6, .int .i64 j)] w := by kernel_rfl
theorem diskm_Disk_After.B2_sound {R : Option Addr → World → Prop} {N1 : Option Addr → Int → Nat → Int → World → Prop} (hN1 : ∀ d k n j w, N1 d k n j w → KW Try.prog 55 86 (diskm_Disk_After.RV R) ([(0, [1, 1, 0, 1, 0, 0]), (2, [1, 1, 0, 1, 0, 0]), (1, [0]), (0, [1, 1, 1])].map (toItem (Try.f55.body.getD .skip))) [(0, .pointer d), (1, .int .i64 k), (5, .pointer (some ⟨n, 0, none⟩)), (6, .int .i64 j)] w) (d : Option Addr) (k : Int) (n : Nat) (j : Int) (w : World) (h : diskm_Disk_After.B2 d k n j w N1  R) :
    KW Try.prog 55 86 (diskm_Disk_After.RV R) ([(0, [1, 1, 0, 1, 0, 0, 1, 1]), (2, [1, 1, 0, 1, 0, 0]), (1, [0]), (0, [1, 1, 1])].map (toItem (Try.f55.body.getD .skip))) [(0, .pointer d), (1, .int .i64 k), (5, .pointer (some ⟨n, 0, none⟩)), (6, .int .i64 j)] w := by
  exact block_spec Try.func55 Try.mixed (stops_cons (fun σ w h => by
      obtain ⟨d_, e0, h⟩ := dP_elim h
      obtain ⟨k_, e1, h⟩ := dI_elim h
      obtain ⟨n_, e2, h⟩ := dK_elim h
      obtain ⟨j_, e3, h⟩ := dI_elim h
      exact (hN1 d_ k_ n_ j_ w h).weaken (Sub.cons (Sub.cons (Sub.cons (Sub.cons (Sub.nil _) e3) e2) e1) e0)) stops_nil) (Eq.mp (diskm_Disk_After.B2_eq d k n j w N1  R ) h)
def diskm_Disk_After.B1 (d : Option Addr) (k : Int) (n : Nat) (j : Int) (t26 : Bool) (w : World) (N1 : Option Addr → Int → Nat → Int → World → Prop)  (R : Option Addr → World → Prop) : Prop :=
  Bm t26 (
    Pn d fun a =>
    LdL (a.add 2) w fun x32_b x32_l x32_c =>
    Pn x32_b fun a_1 =>
    (0 ≤ j ∧ j < ((x32_l : Nat) : Int)) ∧
    LdI .i64 (Addr.add a_1 (j.toNat * 3)) w fun x35_0 =>
    LdI .i64 ((Addr.add a_1 (j.toNat * 3)).add 1) w fun x35_1 =>
    LdS ((Addr.add a_1 (j.toNat * 3)).add 2) w fun x35_2 =>
    New (.cells #[.int .i64 (0 : Int), .int .i64 (0 : Int), .string (ByteArray.mk #[])] 83) w fun r_ w1 =>
    Sts [.int .i64 x35_0, .int .i64 x35_1, .string x35_2] ⟨r_, 0, none⟩ 0 w1 fun w2 =>
    LdI .i64 ⟨r_, 1, none⟩ w2 fun x37 =>
    Bm (x37 == (0 : Int)) (
      LdL ⟨n, 0, none⟩ w2.drew fun x42_b x42_l x42_c =>
      LdI .i64 ⟨r_, 0, none⟩ w2.drew fun x44 =>
      LdS ⟨r_, 2, none⟩ w2.drew fun x46 =>
      LdL ⟨n, 0, none⟩ w2.drew fun x50_b x50_l x50_c =>
      LdI .i64 ⟨r_, 0, none⟩ w2.drew fun x52 =>
      Pn x50_b fun a_2 =>
      (0 ≤ x52 ∧ x52 < ((x50_l : Nat) : Int)) ∧
      LdS (Addr.add a_2 (x52.toNat * 1)) w2.drew fun x54 =>
      (0 ≤ (32 : Int) ∧ (32 : Int) ≤ ((x54.size : Nat) : Int)) ∧
      ((x46.size + (x54.extract (32 : Int).toNat ((x54.size : Nat) : Int).toNat).size : Nat) : Int) ≤ 9223372036854775807 ∧
      Pn x42_b fun a_3 =>
      (0 ≤ x44 ∧ x44 < ((x42_l : Nat) : Int)) ∧
      Sts [.string (x46 ++ (x54.extract (32 : Int).toNat ((x54.size : Nat) : Int).toNat))] (Addr.add a_3 (x44.toNat * 1)) 0 w2.drew fun w3 =>
      diskm_Disk_After.B2 d k n j w3 N1 R) (
      LdL ⟨n, 0, none⟩ w2.drew fun x61_b x61_l x61_c =>
      LdI .i64 ⟨r_, 0, none⟩ w2.drew fun x63 =>
      LdL ⟨n, 0, none⟩ w2.drew fun x67_b x67_l x67_c =>
      LdI .i64 ⟨r_, 0, none⟩ w2.drew fun x69 =>
      Pn x67_b fun a_4 =>
      (0 ≤ x69 ∧ x69 < ((x67_l : Nat) : Int)) ∧
      LdS (Addr.add a_4 (x69.toNat * 1)) w2.drew fun x71 =>
      (0 ≤ (32 : Int) ∧ (32 : Int) ≤ ((x71.size : Nat) : Int)) ∧
      LdS ⟨r_, 2, none⟩ w2.drew fun x74 =>
      (((x71.extract ((0 : Nat) : Int).toNat (32 : Int).toNat).size + x74.size : Nat) : Int) ≤ 9223372036854775807 ∧
      Pn x61_b fun a_5 =>
      (0 ≤ x63 ∧ x63 < ((x61_l : Nat) : Int)) ∧
      Sts [.string ((x71.extract ((0 : Nat) : Int).toNat (32 : Int).toNat) ++ x74)] (Addr.add a_5 (x63.toNat * 1)) 0 w2.drew fun w4 =>
      diskm_Disk_After.B2 d k n j w4 N1 R)) (
    LdL ⟨n, 0, none⟩ w fun x81_b x81_l x81_c =>
    diskm_blocks.Call x81_b x81_l x81_c w fun r82_b r82_l r82_c w5 =>
    Sts [.slice r82_b r82_l r82_c] ⟨n, 1, none⟩ 0 w5 fun w6 =>
    R (some ⟨n, 0, none⟩) w6)
theorem diskm_Disk_After.B1_eq (d : Option Addr) (k : Int) (n : Nat) (j : Int) (t26 : Bool) (w : World) (N1 : Option Addr → Int → Nat → Int → World → Prop)  (R : Option Addr → World → Prop) (sB2 : Option Addr → Int → Nat → Int → World → Prop) :
    (
  Bm t26 (
    Pn d fun a =>
    LdL (a.add 2) w fun x32_b x32_l x32_c =>
    Pn x32_b fun a_1 =>
    (0 ≤ j ∧ j < ((x32_l : Nat) : Int)) ∧
    LdI .i64 (Addr.add a_1 (j.toNat * 3)) w fun x35_0 =>
    LdI .i64 ((Addr.add a_1 (j.toNat * 3)).add 1) w fun x35_1 =>
    LdS ((Addr.add a_1 (j.toNat * 3)).add 2) w fun x35_2 =>
    New (.cells #[.int .i64 (0 : Int), .int .i64 (0 : Int), .string (ByteArray.mk #[])] 83) w fun r_ w1 =>
    Sts [.int .i64 x35_0, .int .i64 x35_1, .string x35_2] ⟨r_, 0, none⟩ 0 w1 fun w2 =>
    LdI .i64 ⟨r_, 1, none⟩ w2 fun x37 =>
    Bm (x37 == (0 : Int)) (
      LdL ⟨n, 0, none⟩ w2.drew fun x42_b x42_l x42_c =>
      LdI .i64 ⟨r_, 0, none⟩ w2.drew fun x44 =>
      LdS ⟨r_, 2, none⟩ w2.drew fun x46 =>
      LdL ⟨n, 0, none⟩ w2.drew fun x50_b x50_l x50_c =>
      LdI .i64 ⟨r_, 0, none⟩ w2.drew fun x52 =>
      Pn x50_b fun a_2 =>
      (0 ≤ x52 ∧ x52 < ((x50_l : Nat) : Int)) ∧
      LdS (Addr.add a_2 (x52.toNat * 1)) w2.drew fun x54 =>
      (0 ≤ (32 : Int) ∧ (32 : Int) ≤ ((x54.size : Nat) : Int)) ∧
      ((x46.size + (x54.extract (32 : Int).toNat ((x54.size : Nat) : Int).toNat).size : Nat) : Int) ≤ 9223372036854775807 ∧
      Pn x42_b fun a_3 =>
      (0 ≤ x44 ∧ x44 < ((x42_l : Nat) : Int)) ∧
      Sts [.string (x46 ++ (x54.extract (32 : Int).toNat ((x54.size : Nat) : Int).toNat))] (Addr.add a_3 (x44.toNat * 1)) 0 w2.drew fun w3 =>
      sB2 d k n j w3) (
      LdL ⟨n, 0, none⟩ w2.drew fun x61_b x61_l x61_c =>
      LdI .i64 ⟨r_, 0, none⟩ w2.drew fun x63 =>
      LdL ⟨n, 0, none⟩ w2.drew fun x67_b x67_l x67_c =>
      LdI .i64 ⟨r_, 0, none⟩ w2.drew fun x69 =>
      Pn x67_b fun a_4 =>
      (0 ≤ x69 ∧ x69 < ((x67_l : Nat) : Int)) ∧
      LdS (Addr.add a_4 (x69.toNat * 1)) w2.drew fun x71 =>
      (0 ≤ (32 : Int) ∧ (32 : Int) ≤ ((x71.size : Nat) : Int)) ∧
      LdS ⟨r_, 2, none⟩ w2.drew fun x74 =>
      (((x71.extract ((0 : Nat) : Int).toNat (32 : Int).toNat).size + x74.size : Nat) : Int) ≤ 9223372036854775807 ∧
      Pn x61_b fun a_5 =>
      (0 ≤ x63 ∧ x63 < ((x61_l : Nat) : Int)) ∧
      Sts [.string ((x71.extract ((0 : Nat) : Int).toNat (32 : Int).toNat) ++ x74)] (Addr.add a_5 (x63.toNat * 1)) 0 w2.drew fun w4 =>
      sB2 d k n j w4)) (
    LdL ⟨n, 0, none⟩ w fun x81_b x81_l x81_c =>
    diskm_blocks.Call x81_b x81_l x81_c w fun r82_b r82_l r82_c w5 =>
    Sts [.slice r82_b r82_l r82_c] ⟨n, 1, none⟩ 0 w5 fun w6 =>
    R (some ⟨n, 0, none⟩) w6)) = kstep Try.prog 86 Try.f55.results.toList (Try.f55.body.getD .skip) (diskm_Disk_After.RV R) (kvc Try.prog 86 Try.f55.results.toList (Try.f55.body.getD .skip) (diskm_Disk_After.RV R) [([(0, [1, 1, 0, 1, 0, 0, 1, 1]), (2, [1, 1, 0, 1, 0, 0]), (1, [0]), (0, [1, 1, 1])], fun σ w => dP (slotOf σ 0) fun d_ => dI .i64 (slotOf σ 1) fun k_ => dK (slotOf σ 5) fun n_ => dI .i64 (slotOf σ 6) fun j_ => sB2 d_ k_ n_ j_ w)] 2000) [(0, [1, 1, 0, 1, 0, 0, 0, 1]), (0, [1, 1, 0, 1, 0, 0, 1]), (2, [1, 1, 0, 1, 0, 0]), (1, [0]), (0, [1, 1, 1])] [(0, .pointer d), (1, .int .i64 k), (5, .pointer (some ⟨n, 0, none⟩)), (6, .int .i64 j), (26, .bool t26)] w := by kernel_rfl
theorem diskm_Disk_After.B1_sound {R : Option Addr → World → Prop} {N1 : Option Addr → Int → Nat → Int → World → Prop} (hN1 : ∀ d k n j w, N1 d k n j w → KW Try.prog 55 86 (diskm_Disk_After.RV R) ([(0, [1, 1, 0, 1, 0, 0]), (2, [1, 1, 0, 1, 0, 0]), (1, [0]), (0, [1, 1, 1])].map (toItem (Try.f55.body.getD .skip))) [(0, .pointer d), (1, .int .i64 k), (5, .pointer (some ⟨n, 0, none⟩)), (6, .int .i64 j)] w) (d : Option Addr) (k : Int) (n : Nat) (j : Int) (t26 : Bool) (w : World) (h : diskm_Disk_After.B1 d k n j t26 w N1  R) :
    KW Try.prog 55 86 (diskm_Disk_After.RV R) ([(0, [1, 1, 0, 1, 0, 0, 0, 1]), (0, [1, 1, 0, 1, 0, 0, 1]), (2, [1, 1, 0, 1, 0, 0]), (1, [0]), (0, [1, 1, 1])].map (toItem (Try.f55.body.getD .skip))) [(0, .pointer d), (1, .int .i64 k), (5, .pointer (some ⟨n, 0, none⟩)), (6, .int .i64 j), (26, .bool t26)] w := by
  exact block_spec Try.func55 Try.mixed (stops_cons (fun σ w h => by
      obtain ⟨d_, e0, h⟩ := dP_elim h
      obtain ⟨k_, e1, h⟩ := dI_elim h
      obtain ⟨n_, e2, h⟩ := dK_elim h
      obtain ⟨j_, e3, h⟩ := dI_elim h
      exact (diskm_Disk_After.B2_sound hN1 d_ k_ n_ j_ w h).weaken (Sub.cons (Sub.cons (Sub.cons (Sub.cons (Sub.nil _) e3) e2) e1) e0)) stops_nil) (Eq.mp (diskm_Disk_After.B1_eq d k n j t26 w N1  R (fun d_ k_ n_ j_ w => diskm_Disk_After.B2 d_ k_ n_ j_ w N1 R)) h)
def diskm_Disk_After.L1b (d : Option Addr) (k : Int) (n : Nat) (j : Int) (w : World)  (N1 : Option Addr → Int → Nat → Int → World → Prop) (R : Option Addr → World → Prop) : Prop :=
  Pn d fun a =>
  LdL (a.add 2) w fun x19_b x19_l x19_c =>
  Bm (decide (j < ((x19_l : Nat) : Int))) (
    diskm_Disk_After.B1 d k n j (decide (j < k)) w N1 R) (
    diskm_Disk_After.B1 d k n j false w N1 R)
theorem diskm_Disk_After.L1b_eq (d : Option Addr) (k : Int) (n : Nat) (j : Int) (w : World)  (N1 : Option Addr → Int → Nat → Int → World → Prop) (R : Option Addr → World → Prop) (sB1 : Option Addr → Int → Nat → Int → Bool → World → Prop) :
    (
  Pn d fun a =>
  LdL (a.add 2) w fun x19_b x19_l x19_c =>
  Bm (decide (j < ((x19_l : Nat) : Int))) (
    sB1 d k n j (decide (j < k)) w) (
    sB1 d k n j false w)) = kstep Try.prog 86 Try.f55.results.toList (Try.f55.body.getD .skip) (diskm_Disk_After.RV R) (kvc Try.prog 86 Try.f55.results.toList (Try.f55.body.getD .skip) (diskm_Disk_After.RV R) [([(0, [1, 1, 0, 1, 0, 0, 0, 1]), (0, [1, 1, 0, 1, 0, 0, 1]), (2, [1, 1, 0, 1, 0, 0]), (1, [0]), (0, [1, 1, 1])], fun σ w => dP (slotOf σ 0) fun d_ => dI .i64 (slotOf σ 1) fun k_ => dK (slotOf σ 5) fun n_ => dI .i64 (slotOf σ 6) fun j_ => dB (slotOf σ 26) fun t26_ => sB1 d_ k_ n_ j_ t26_ w)] 2000) [(0, [1, 1, 0, 1, 0, 0]), (2, [1, 1, 0, 1, 0, 0]), (1, [0]), (0, [1, 1, 1])] [(0, .pointer d), (1, .int .i64 k), (5, .pointer (some ⟨n, 0, none⟩)), (6, .int .i64 j)] w := by kernel_rfl
theorem diskm_Disk_After.L1b_sound {R : Option Addr → World → Prop} {N1 : Option Addr → Int → Nat → Int → World → Prop} (hN1 : ∀ d k n j w, N1 d k n j w → KW Try.prog 55 86 (diskm_Disk_After.RV R) ([(0, [1, 1, 0, 1, 0, 0]), (2, [1, 1, 0, 1, 0, 0]), (1, [0]), (0, [1, 1, 1])].map (toItem (Try.f55.body.getD .skip))) [(0, .pointer d), (1, .int .i64 k), (5, .pointer (some ⟨n, 0, none⟩)), (6, .int .i64 j)] w) (d : Option Addr) (k : Int) (n : Nat) (j : Int) (w : World) (h : diskm_Disk_After.L1b d k n j w  N1 R) :
    KW Try.prog 55 86 (diskm_Disk_After.RV R) ([(0, [1, 1, 0, 1, 0, 0]), (2, [1, 1, 0, 1, 0, 0]), (1, [0]), (0, [1, 1, 1])].map (toItem (Try.f55.body.getD .skip))) [(0, .pointer d), (1, .int .i64 k), (5, .pointer (some ⟨n, 0, none⟩)), (6, .int .i64 j)] w := by
  exact block_spec Try.func55 Try.mixed (stops_cons (fun σ w h => by
      obtain ⟨d_, e0, h⟩ := dP_elim h
      obtain ⟨k_, e1, h⟩ := dI_elim h
      obtain ⟨n_, e2, h⟩ := dK_elim h
      obtain ⟨j_, e3, h⟩ := dI_elim h
      obtain ⟨t26_, e4, h⟩ := dB_elim h
      exact (diskm_Disk_After.B1_sound hN1 d_ k_ n_ j_ t26_ w h).weaken (Sub.cons (Sub.cons (Sub.cons (Sub.cons (Sub.cons (Sub.nil _) e4) e3) e2) e1) e0)) stops_nil) (Eq.mp (diskm_Disk_After.L1b_eq d k n j w  N1 R (fun d_ k_ n_ j_ t26_ w => diskm_Disk_After.B1 d_ k_ n_ j_ t26_ w N1 R)) h)
def diskm_Disk_After.L1 (d : Option Addr) (k : Int) (n : Nat) (j : Int) (w : World)  (R : Option Addr → World → Prop) : Prop :=
  ∃ (I : Nat → Option Addr → Int → Nat → Int → World → Prop) (m : Nat), I m d k n j w ∧ ∀ m d k n j w, I m d k n j w → diskm_Disk_After.L1b d k n j w  (fun d' k' n' j' w' => ∃ m', m' < m ∧ I m' d' k' n' j' w') R
theorem diskm_Disk_After.L1_sound {R : Option Addr → World → Prop}  (d : Option Addr) (k : Int) (n : Nat) (j : Int) (w : World) (h : diskm_Disk_After.L1 d k n j w  R) :
    KW Try.prog 55 86 (diskm_Disk_After.RV R) ([(0, [1, 1, 0, 1, 0, 0]), (2, [1, 1, 0, 1, 0, 0]), (1, [0]), (0, [1, 1, 1])].map (toItem (Try.f55.body.getD .skip))) [(0, .pointer d), (1, .int .i64 k), (5, .pointer (some ⟨n, 0, none⟩)), (6, .int .i64 j)] w := by
  obtain ⟨I, m, h0, hr⟩ := h
  refine KW.loop (fun m σ w => ∃ (d : Option Addr) (k : Int) (n : Nat) (j : Int), σ = [(0, .pointer d), (1, .int .i64 k), (5, .pointer (some ⟨n, 0, none⟩)), (6, .int .i64 j)] ∧ I m d k n j w) ?_ m _ w ⟨d, k, n, j, rfl, h0⟩
  rintro m ih σ w ⟨d, k, n, j, rfl, hI⟩
  exact diskm_Disk_After.L1b_sound  (N1 := fun d' k' n' j' w' => ∃ m', m' < m ∧ I m' d' k' n' j' w') (fun d' k' n' j' w' hx => by obtain ⟨m', hlt, hI'⟩ := hx; exact ih m' hlt _ w' ⟨d', k', n', j', rfl, hI'⟩) d k n j w (hr m d k n j w hI)
def diskm_Disk_After.B0 (d : Option Addr) (k : Int) (w : World)   (R : Option Addr → World → Prop) : Prop :=
  Pn d fun a =>
  LdL (a.add 1) w fun x11_b x11_l x11_c =>
  diskm_blocks.Call x11_b x11_l x11_c w fun r12_b r12_l r12_c w1 =>
  New (.cells #[.slice r12_b r12_l r12_c, .slice none 0 0, .slice none 0 0] 80) w1 fun b14 w2 =>
  diskm_Disk_After.L1 d k b14 (0 : Int) w2  R
theorem diskm_Disk_After.B0_eq (d : Option Addr) (k : Int) (w : World)   (R : Option Addr → World → Prop) (sL1 : Option Addr → Int → Nat → Int → World → Prop) :
    (
  Pn d fun a =>
  LdL (a.add 1) w fun x11_b x11_l x11_c =>
  diskm_blocks.Call x11_b x11_l x11_c w fun r12_b r12_l r12_c w1 =>
  New (.cells #[.slice r12_b r12_l r12_c, .slice none 0 0, .slice none 0 0] 80) w1 fun b14 w2 =>
  sL1 d k b14 (0 : Int) w2) = kstep Try.prog 86 Try.f55.results.toList (Try.f55.body.getD .skip) (diskm_Disk_After.RV R) (kvc Try.prog 86 Try.f55.results.toList (Try.f55.body.getD .skip) (diskm_Disk_After.RV R) [([(0, [1, 1, 0, 1, 0, 0]), (2, [1, 1, 0, 1, 0, 0]), (1, [0]), (0, [1, 1, 1])], fun σ w => dP (slotOf σ 0) fun d_ => dI .i64 (slotOf σ 1) fun k_ => dK (slotOf σ 5) fun n_ => dI .i64 (slotOf σ 6) fun j_ => sL1 d_ k_ n_ j_ w)] 2000) [(0, [])] [(0, .pointer d), (1, .int .i64 k)] w := by kernel_rfl
theorem diskm_Disk_After.B0_sound {R : Option Addr → World → Prop}  (d : Option Addr) (k : Int) (w : World) (h : diskm_Disk_After.B0 d k w   R) :
    KW Try.prog 55 86 (diskm_Disk_After.RV R) ([(0, [])].map (toItem (Try.f55.body.getD .skip))) [(0, .pointer d), (1, .int .i64 k)] w := by
  exact block_spec Try.func55 Try.mixed (stops_cons (fun σ w h => by
      obtain ⟨d_, e0, h⟩ := dP_elim h
      obtain ⟨k_, e1, h⟩ := dI_elim h
      obtain ⟨n_, e2, h⟩ := dK_elim h
      obtain ⟨j_, e3, h⟩ := dI_elim h
      exact (diskm_Disk_After.L1_sound  d_ k_ n_ j_ w h).weaken (Sub.cons (Sub.cons (Sub.cons (Sub.cons (Sub.nil _) e3) e2) e1) e0)) stops_nil) (Eq.mp (diskm_Disk_After.B0_eq d k w   R (fun d_ k_ n_ j_ w => diskm_Disk_After.L1 d_ k_ n_ j_ w  R)) h)
theorem diskm_Disk_After.sound (d : Option Addr) (k : Int) (w : World) (R : Option Addr → World → Prop) (h : diskm_Disk_After.B0 d k w R) : diskm_Disk_After.Call d k w R := by
  have hc := calls_of_block (args := #[.pointer d, .int .i64 k]) Try.func55 (body := (Try.f55.body.getD .skip)) (by kernel_rfl) (by kernel_rfl) (args_slot _) (diskm_Disk_After.B0_sound d k w h)
  exact hc.mono fun e w' he => by
    obtain ⟨v, rfl, hv⟩ := he
    exact diskm_Disk_After.RV_elim hv
def store_encMeta.B0 (m0_0 : Bool) (m0_1 m0_2 m0_3 : Int) (w : World)   (R : Option Addr → Nat → Nat → World → Prop) : Prop :=
  New (.cells #[.bool m0_0, .int .i64 m0_1, .int .i64 m0_2, .int .i64 m0_3] 52) w fun m0_ w1 =>
  Make 5 (.int .u8 (0 : Int)) 1 1 (64 : Int) (64 : Int) w1 fun b4 w2 =>
  LdI .i64 ⟨m0_, 1, none⟩ w2 fun x7 =>
  store_put8.Call (some ⟨b4, 0, none⟩) 64 64 (1 : Int) x7 w2 fun r8_b r8_l r8_c w3 =>
  LdI .i64 ⟨m0_, 2, none⟩ w3 fun x11 =>
  store_put8.Call r8_b r8_l r8_c (9 : Int) x11 w3 fun r12_b r12_l r12_c w4 =>
  LdI .i64 ⟨m0_, 3, none⟩ w4 fun x15 =>
  Pn r12_b fun a =>
  (0 ≤ (32 : Int) ∧ (32 : Int) < ((r12_l : Nat) : Int)) ∧
  Sts [.int .u8 (IntKind.u8.wrap (IntKind.i64.wrap (x15 + (1 : Int))))] (a.add 32) 0 w4 fun w5 =>
  R r12_b r12_l r12_c w5
theorem store_encMeta.B0_eq (m0_0 : Bool) (m0_1 m0_2 m0_3 : Int) (w : World)   (R : Option Addr → Nat → Nat → World → Prop)  :
    (
  New (.cells #[.bool m0_0, .int .i64 m0_1, .int .i64 m0_2, .int .i64 m0_3] 52) w fun m0_ w1 =>
  Make 5 (.int .u8 (0 : Int)) 1 1 (64 : Int) (64 : Int) w1 fun b4 w2 =>
  LdI .i64 ⟨m0_, 1, none⟩ w2 fun x7 =>
  store_put8.Call (some ⟨b4, 0, none⟩) 64 64 (1 : Int) x7 w2 fun r8_b r8_l r8_c w3 =>
  LdI .i64 ⟨m0_, 2, none⟩ w3 fun x11 =>
  store_put8.Call r8_b r8_l r8_c (9 : Int) x11 w3 fun r12_b r12_l r12_c w4 =>
  LdI .i64 ⟨m0_, 3, none⟩ w4 fun x15 =>
  Pn r12_b fun a =>
  (0 ≤ (32 : Int) ∧ (32 : Int) < ((r12_l : Nat) : Int)) ∧
  Sts [.int .u8 (IntKind.u8.wrap (IntKind.i64.wrap (x15 + (1 : Int))))] (a.add 32) 0 w4 fun w5 =>
  R r12_b r12_l r12_c w5) = kstep Try.prog 20 Try.f56.results.toList (Try.f56.body.getD .skip) (store_encMeta.RV R) (kvc Try.prog 20 Try.f56.results.toList (Try.f56.body.getD .skip) (store_encMeta.RV R) [] 2000) [(0, [])] [(0, .agg #[.bool m0_0, .int .i64 m0_1, .int .i64 m0_2, .int .i64 m0_3])] w := by kernel_rfl
theorem store_encMeta.B0_sound {R : Option Addr → Nat → Nat → World → Prop}  (m0_0 : Bool) (m0_1 m0_2 m0_3 : Int) (w : World) (h : store_encMeta.B0 m0_0 m0_1 m0_2 m0_3 w   R) :
    KW Try.prog 56 20 (store_encMeta.RV R) ([(0, [])].map (toItem (Try.f56.body.getD .skip))) [(0, .agg #[.bool m0_0, .int .i64 m0_1, .int .i64 m0_2, .int .i64 m0_3])] w := by
  exact block_spec Try.func56 Try.mixed stops_nil (Eq.mp (store_encMeta.B0_eq m0_0 m0_1 m0_2 m0_3 w   R ) h)
theorem store_encMeta.sound (m0_0 : Bool) (m0_1 m0_2 m0_3 : Int) (w : World) (R : Option Addr → Nat → Nat → World → Prop) (h : store_encMeta.B0 m0_0 m0_1 m0_2 m0_3 w R) : store_encMeta.Call m0_0 m0_1 m0_2 m0_3 w R := by
  have hc := calls_of_block (args := #[.agg #[.bool m0_0, .int .i64 m0_1, .int .i64 m0_2, .int .i64 m0_3]]) Try.func56 (body := (Try.f56.body.getD .skip)) (by kernel_rfl) (by kernel_rfl) (args_slot _) (store_encMeta.B0_sound m0_0 m0_1 m0_2 m0_3 w h)
  exact hc.mono fun e w' he => by
    obtain ⟨v, rfl, hv⟩ := he
    exact store_encMeta.RV_elim hv
def store_Store_write.B0 (t : Option Addr) (b : Int) (x_b : Option Addr) (x_l x_c : Nat) (w : World)   (R : World → Prop) : Prop :=
  Pn t fun a =>
  (0 ≤ b ∧ b < ((14 : Nat) : Int)) ∧
  LdI .u8 (Addr.add (a.add 1) (b.toNat * 1)) w.drew fun x13 =>
  Pn t fun a_1 =>
  store_next.Call x13 w.drew fun r14 w1 =>
  (0 ≤ b ∧ b < ((14 : Nat) : Int)) ∧
  Sts [.int .u8 r14] (Addr.add (a_1.add 1) (b.toNat * 1)) 0 w1 fun w2 =>
  Pn t fun a_2 =>
  (0 ≤ b ∧ b < ((14 : Nat) : Int)) ∧
  LdI .u8 (Addr.add (a_2.add 1) (b.toNat * 1)) w2.drew fun x25 =>
  Pn t fun a_3 =>
  (0 ≤ b ∧ b < ((14 : Nat) : Int)) ∧
  LdI .u8 (Addr.add (a_3.add 1) (b.toNat * 1)) w2.drew fun x31 =>
  Pn x_b fun a_4 =>
  (0 ≤ (0 : Int) ∧ (0 : Int) < ((x_l : Nat) : Int)) ∧
  Sts [.int .u8 x25] a_4 0 w2.drew fun w3 =>
  Pn x_b fun a_5 =>
  (0 ≤ (63 : Int) ∧ (63 : Int) < ((x_l : Nat) : Int)) ∧
  Sts [.int .u8 x31] (a_5.add 63) 0 w3 fun w4 =>
  Pn t fun a_6 =>
  LdP a_6 w4.drew fun x37 =>
  ToStr x_b x_l w4.drew fun s40 =>
  w4.drew.cell? a_6 = some (.pointer x37) ∧
  diskm_Disk_Write.Call x37 b s40 w4.drew fun r41 w5 =>
  R  w5
theorem store_Store_write.B0_eq (t : Option Addr) (b : Int) (x_b : Option Addr) (x_l x_c : Nat) (w : World)   (R : World → Prop)  :
    (
  Pn t fun a =>
  (0 ≤ b ∧ b < ((14 : Nat) : Int)) ∧
  LdI .u8 (Addr.add (a.add 1) (b.toNat * 1)) w.drew fun x13 =>
  Pn t fun a_1 =>
  store_next.Call x13 w.drew fun r14 w1 =>
  (0 ≤ b ∧ b < ((14 : Nat) : Int)) ∧
  Sts [.int .u8 r14] (Addr.add (a_1.add 1) (b.toNat * 1)) 0 w1 fun w2 =>
  Pn t fun a_2 =>
  (0 ≤ b ∧ b < ((14 : Nat) : Int)) ∧
  LdI .u8 (Addr.add (a_2.add 1) (b.toNat * 1)) w2.drew fun x25 =>
  Pn t fun a_3 =>
  (0 ≤ b ∧ b < ((14 : Nat) : Int)) ∧
  LdI .u8 (Addr.add (a_3.add 1) (b.toNat * 1)) w2.drew fun x31 =>
  Pn x_b fun a_4 =>
  (0 ≤ (0 : Int) ∧ (0 : Int) < ((x_l : Nat) : Int)) ∧
  Sts [.int .u8 x25] a_4 0 w2.drew fun w3 =>
  Pn x_b fun a_5 =>
  (0 ≤ (63 : Int) ∧ (63 : Int) < ((x_l : Nat) : Int)) ∧
  Sts [.int .u8 x31] (a_5.add 63) 0 w3 fun w4 =>
  Pn t fun a_6 =>
  LdP a_6 w4.drew fun x37 =>
  ToStr x_b x_l w4.drew fun s40 =>
  w4.drew.cell? a_6 = some (.pointer x37) ∧
  diskm_Disk_Write.Call x37 b s40 w4.drew fun r41 w5 =>
  R  w5) = kstep Try.prog 42 Try.f57.results.toList (Try.f57.body.getD .skip) (store_Store_write.RV R) (kvc Try.prog 42 Try.f57.results.toList (Try.f57.body.getD .skip) (store_Store_write.RV R) [] 2000) [(0, [])] [(0, .pointer t), (1, .int .i64 b), (2, .slice x_b x_l x_c)] w := by kernel_rfl
theorem store_Store_write.B0_sound {R : World → Prop}  (t : Option Addr) (b : Int) (x_b : Option Addr) (x_l x_c : Nat) (w : World) (h : store_Store_write.B0 t b x_b x_l x_c w   R) :
    KW Try.prog 57 42 (store_Store_write.RV R) ([(0, [])].map (toItem (Try.f57.body.getD .skip))) [(0, .pointer t), (1, .int .i64 b), (2, .slice x_b x_l x_c)] w := by
  exact block_spec Try.func57 Try.mixed stops_nil (Eq.mp (store_Store_write.B0_eq t b x_b x_l x_c w   R ) h)
theorem store_Store_write.sound (t : Option Addr) (b : Int) (x_b : Option Addr) (x_l x_c : Nat) (w : World) (R : World → Prop) (h : store_Store_write.B0 t b x_b x_l x_c w R) : store_Store_write.Call t b x_b x_l x_c w R := by
  have hc := calls_of_block (args := #[.pointer t, .int .i64 b, .slice x_b x_l x_c]) Try.func57 (body := (Try.f57.body.getD .skip)) (by kernel_rfl) (by kernel_rfl) (args_slot _) (store_Store_write.B0_sound t b x_b x_l x_c w h)
  exact hc.mono fun e w' he => by
    obtain ⟨v, rfl, hv⟩ := he
    exact store_Store_write.RV_elim hv
def storem_Store_step.B0 (t : Option Addr) (w : World)   (R : World → Prop) : Prop :=
  Pn t fun a =>
  LdP a w fun x6 =>
  storem_state_clone.Call x6 w fun r7 w1 =>
  Pn t fun a_1 =>
  LdL (a_1.add 2) w1 fun x12_b x12_l x12_c =>
  New (.cells #[.pointer r7] 88) w1 fun b14 w2 =>
  Append 88 (.pointer none) 1 8 x12_b x12_l x12_c (some ⟨b14, 0, none⟩) 1 w2 fun b15 c15 w3 =>
  Pn t fun a_2 =>
  Sts [.slice b15 (x12_l + 1) c15] (a_2.add 2) 0 w3 fun w4 =>
  R  w4
theorem storem_Store_step.B0_eq (t : Option Addr) (w : World)   (R : World → Prop)  :
    (
  Pn t fun a =>
  LdP a w fun x6 =>
  storem_state_clone.Call x6 w fun r7 w1 =>
  Pn t fun a_1 =>
  LdL (a_1.add 2) w1 fun x12_b x12_l x12_c =>
  New (.cells #[.pointer r7] 88) w1 fun b14 w2 =>
  Append 88 (.pointer none) 1 8 x12_b x12_l x12_c (some ⟨b14, 0, none⟩) 1 w2 fun b15 c15 w3 =>
  Pn t fun a_2 =>
  Sts [.slice b15 (x12_l + 1) c15] (a_2.add 2) 0 w3 fun w4 =>
  R  w4) = kstep Try.prog 18 Try.f58.results.toList (Try.f58.body.getD .skip) (storem_Store_step.RV R) (kvc Try.prog 18 Try.f58.results.toList (Try.f58.body.getD .skip) (storem_Store_step.RV R) [] 2000) [(0, [])] [(0, .pointer t)] w := by kernel_rfl
theorem storem_Store_step.B0_sound {R : World → Prop}  (t : Option Addr) (w : World) (h : storem_Store_step.B0 t w   R) :
    KW Try.prog 58 18 (storem_Store_step.RV R) ([(0, [])].map (toItem (Try.f58.body.getD .skip))) [(0, .pointer t)] w := by
  exact block_spec Try.func58 Try.mixed stops_nil (Eq.mp (storem_Store_step.B0_eq t w   R ) h)
theorem storem_Store_step.sound (t : Option Addr) (w : World) (R : World → Prop) (h : storem_Store_step.B0 t w R) : storem_Store_step.Call t w R := by
  have hc := calls_of_block (args := #[.pointer t]) Try.func58 (body := (Try.f58.body.getD .skip)) (by kernel_rfl) (by kernel_rfl) (args_slot _) (storem_Store_step.B0_sound t w h)
  exact hc.mono fun e w' he => by
    obtain ⟨v, rfl, hv⟩ := he
    exact storem_Store_step.RV_elim hv
def store_chunk.B1 (data : ByteArray) (k : Int) (b_b : Option Addr) (b_l b_c : Nat) (i : Int) (t18 : Bool) (w : World) (N1 : ByteArray → Int → Option Addr → Nat → Nat → Int → World → Prop)  (R : ByteArray → World → Prop) : Prop :=
  Bm t18 (
    (0 ≤ (IntKind.i64.wrap ((IntKind.i64.wrap (k * (64 : Int))) + i)) ∧ (IntKind.i64.wrap ((IntKind.i64.wrap (k * (64 : Int))) + i)) < ((data.size : Nat) : Int)) ∧
    Pn b_b fun a =>
    (0 ≤ i ∧ i < ((b_l : Nat) : Int)) ∧
    Sts [.int .u8 (byteAt data (IntKind.i64.wrap ((IntKind.i64.wrap (k * (64 : Int))) + i)))] (Addr.add a (i.toNat * 1)) 0 w fun w1 =>
    N1 data k b_b b_l b_c (IntKind.i64.wrap (i + (1 : Int))) w1) (
    ToStr b_b b_l w fun s31 =>
    R s31 w)
theorem store_chunk.B1_eq (data : ByteArray) (k : Int) (b_b : Option Addr) (b_l b_c : Nat) (i : Int) (t18 : Bool) (w : World) (N1 : ByteArray → Int → Option Addr → Nat → Nat → Int → World → Prop)  (R : ByteArray → World → Prop)  :
    (
  Bm t18 (
    (0 ≤ (IntKind.i64.wrap ((IntKind.i64.wrap (k * (64 : Int))) + i)) ∧ (IntKind.i64.wrap ((IntKind.i64.wrap (k * (64 : Int))) + i)) < ((data.size : Nat) : Int)) ∧
    Pn b_b fun a =>
    (0 ≤ i ∧ i < ((b_l : Nat) : Int)) ∧
    Sts [.int .u8 (byteAt data (IntKind.i64.wrap ((IntKind.i64.wrap (k * (64 : Int))) + i)))] (Addr.add a (i.toNat * 1)) 0 w fun w1 =>
    N1 data k b_b b_l b_c (IntKind.i64.wrap (i + (1 : Int))) w1) (
    ToStr b_b b_l w fun s31 =>
    R s31 w)) = kstep Try.prog 32 Try.f59.results.toList (Try.f59.body.getD .skip) (store_chunk.RV R) (kvc Try.prog 32 Try.f59.results.toList (Try.f59.body.getD .skip) (store_chunk.RV R) [([(0, [1, 1, 0, 1, 0, 0]), (2, [1, 1, 0, 1, 0, 0]), (1, [0]), (0, [1, 1, 1])], fun σ w => dS (slotOf σ 0) fun data_ => dI .i64 (slotOf σ 1) fun k_ => dL (slotOf σ 5) fun b_b_ b_l_ b_c_ => dI .i64 (slotOf σ 6) fun i_ => N1 data_ k_ b_b_ b_l_ b_c_ i_ w)] 2000) [(0, [1, 1, 0, 1, 0, 0, 0, 1]), (0, [1, 1, 0, 1, 0, 0, 1]), (2, [1, 1, 0, 1, 0, 0]), (1, [0]), (0, [1, 1, 1])] [(0, .string data), (1, .int .i64 k), (5, .slice b_b b_l b_c), (6, .int .i64 i), (18, .bool t18)] w := by kernel_rfl
theorem store_chunk.B1_sound {R : ByteArray → World → Prop} {N1 : ByteArray → Int → Option Addr → Nat → Nat → Int → World → Prop} (hN1 : ∀ data k b_b b_l b_c i w, N1 data k b_b b_l b_c i w → KW Try.prog 59 32 (store_chunk.RV R) ([(0, [1, 1, 0, 1, 0, 0]), (2, [1, 1, 0, 1, 0, 0]), (1, [0]), (0, [1, 1, 1])].map (toItem (Try.f59.body.getD .skip))) [(0, .string data), (1, .int .i64 k), (5, .slice b_b b_l b_c), (6, .int .i64 i)] w) (data : ByteArray) (k : Int) (b_b : Option Addr) (b_l b_c : Nat) (i : Int) (t18 : Bool) (w : World) (h : store_chunk.B1 data k b_b b_l b_c i t18 w N1  R) :
    KW Try.prog 59 32 (store_chunk.RV R) ([(0, [1, 1, 0, 1, 0, 0, 0, 1]), (0, [1, 1, 0, 1, 0, 0, 1]), (2, [1, 1, 0, 1, 0, 0]), (1, [0]), (0, [1, 1, 1])].map (toItem (Try.f59.body.getD .skip))) [(0, .string data), (1, .int .i64 k), (5, .slice b_b b_l b_c), (6, .int .i64 i), (18, .bool t18)] w := by
  exact block_spec Try.func59 Try.mixed (stops_cons (fun σ w h => by
      obtain ⟨data_, e0, h⟩ := dS_elim h
      obtain ⟨k_, e1, h⟩ := dI_elim h
      obtain ⟨b_b_, b_l_, b_c_, e2, h⟩ := dL_elim h
      obtain ⟨i_, e3, h⟩ := dI_elim h
      exact (hN1 data_ k_ b_b_ b_l_ b_c_ i_ w h).weaken (Sub.cons (Sub.cons (Sub.cons (Sub.cons (Sub.nil _) e3) e2) e1) e0)) stops_nil) (Eq.mp (store_chunk.B1_eq data k b_b b_l b_c i t18 w N1  R ) h)
def store_chunk.L1b (data : ByteArray) (k : Int) (b_b : Option Addr) (b_l b_c : Nat) (i : Int) (w : World)  (N1 : ByteArray → Int → Option Addr → Nat → Nat → Int → World → Prop) (R : ByteArray → World → Prop) : Prop :=
  Bm (decide (i < (64 : Int))) (
    store_chunk.B1 data k b_b b_l b_c i (decide ((IntKind.i64.wrap ((IntKind.i64.wrap (k * (64 : Int))) + i)) < ((data.size : Nat) : Int))) w N1 R) (
    store_chunk.B1 data k b_b b_l b_c i false w N1 R)
theorem store_chunk.L1b_eq (data : ByteArray) (k : Int) (b_b : Option Addr) (b_l b_c : Nat) (i : Int) (w : World)  (N1 : ByteArray → Int → Option Addr → Nat → Nat → Int → World → Prop) (R : ByteArray → World → Prop) (sB1 : ByteArray → Int → Option Addr → Nat → Nat → Int → Bool → World → Prop) :
    (
  Bm (decide (i < (64 : Int))) (
    sB1 data k b_b b_l b_c i (decide ((IntKind.i64.wrap ((IntKind.i64.wrap (k * (64 : Int))) + i)) < ((data.size : Nat) : Int))) w) (
    sB1 data k b_b b_l b_c i false w)) = kstep Try.prog 32 Try.f59.results.toList (Try.f59.body.getD .skip) (store_chunk.RV R) (kvc Try.prog 32 Try.f59.results.toList (Try.f59.body.getD .skip) (store_chunk.RV R) [([(0, [1, 1, 0, 1, 0, 0, 0, 1]), (0, [1, 1, 0, 1, 0, 0, 1]), (2, [1, 1, 0, 1, 0, 0]), (1, [0]), (0, [1, 1, 1])], fun σ w => dS (slotOf σ 0) fun data_ => dI .i64 (slotOf σ 1) fun k_ => dL (slotOf σ 5) fun b_b_ b_l_ b_c_ => dI .i64 (slotOf σ 6) fun i_ => dB (slotOf σ 18) fun t18_ => sB1 data_ k_ b_b_ b_l_ b_c_ i_ t18_ w)] 2000) [(0, [1, 1, 0, 1, 0, 0]), (2, [1, 1, 0, 1, 0, 0]), (1, [0]), (0, [1, 1, 1])] [(0, .string data), (1, .int .i64 k), (5, .slice b_b b_l b_c), (6, .int .i64 i)] w := by kernel_rfl
theorem store_chunk.L1b_sound {R : ByteArray → World → Prop} {N1 : ByteArray → Int → Option Addr → Nat → Nat → Int → World → Prop} (hN1 : ∀ data k b_b b_l b_c i w, N1 data k b_b b_l b_c i w → KW Try.prog 59 32 (store_chunk.RV R) ([(0, [1, 1, 0, 1, 0, 0]), (2, [1, 1, 0, 1, 0, 0]), (1, [0]), (0, [1, 1, 1])].map (toItem (Try.f59.body.getD .skip))) [(0, .string data), (1, .int .i64 k), (5, .slice b_b b_l b_c), (6, .int .i64 i)] w) (data : ByteArray) (k : Int) (b_b : Option Addr) (b_l b_c : Nat) (i : Int) (w : World) (h : store_chunk.L1b data k b_b b_l b_c i w  N1 R) :
    KW Try.prog 59 32 (store_chunk.RV R) ([(0, [1, 1, 0, 1, 0, 0]), (2, [1, 1, 0, 1, 0, 0]), (1, [0]), (0, [1, 1, 1])].map (toItem (Try.f59.body.getD .skip))) [(0, .string data), (1, .int .i64 k), (5, .slice b_b b_l b_c), (6, .int .i64 i)] w := by
  exact block_spec Try.func59 Try.mixed (stops_cons (fun σ w h => by
      obtain ⟨data_, e0, h⟩ := dS_elim h
      obtain ⟨k_, e1, h⟩ := dI_elim h
      obtain ⟨b_b_, b_l_, b_c_, e2, h⟩ := dL_elim h
      obtain ⟨i_, e3, h⟩ := dI_elim h
      obtain ⟨t18_, e4, h⟩ := dB_elim h
      exact (store_chunk.B1_sound hN1 data_ k_ b_b_ b_l_ b_c_ i_ t18_ w h).weaken (Sub.cons (Sub.cons (Sub.cons (Sub.cons (Sub.cons (Sub.nil _) e4) e3) e2) e1) e0)) stops_nil) (Eq.mp (store_chunk.L1b_eq data k b_b b_l b_c i w  N1 R (fun data_ k_ b_b_ b_l_ b_c_ i_ t18_ w => store_chunk.B1 data_ k_ b_b_ b_l_ b_c_ i_ t18_ w N1 R)) h)
def store_chunk.L1 (data : ByteArray) (k : Int) (b_b : Option Addr) (b_l b_c : Nat) (i : Int) (w : World)  (R : ByteArray → World → Prop) : Prop :=
  ∃ (I : Nat → ByteArray → Int → Option Addr → Nat → Nat → Int → World → Prop) (m : Nat), I m data k b_b b_l b_c i w ∧ ∀ m data k b_b b_l b_c i w, I m data k b_b b_l b_c i w → store_chunk.L1b data k b_b b_l b_c i w  (fun data' k' b_b' b_l' b_c' i' w' => ∃ m', m' < m ∧ I m' data' k' b_b' b_l' b_c' i' w') R
theorem store_chunk.L1_sound {R : ByteArray → World → Prop}  (data : ByteArray) (k : Int) (b_b : Option Addr) (b_l b_c : Nat) (i : Int) (w : World) (h : store_chunk.L1 data k b_b b_l b_c i w  R) :
    KW Try.prog 59 32 (store_chunk.RV R) ([(0, [1, 1, 0, 1, 0, 0]), (2, [1, 1, 0, 1, 0, 0]), (1, [0]), (0, [1, 1, 1])].map (toItem (Try.f59.body.getD .skip))) [(0, .string data), (1, .int .i64 k), (5, .slice b_b b_l b_c), (6, .int .i64 i)] w := by
  obtain ⟨I, m, h0, hr⟩ := h
  refine KW.loop (fun m σ w => ∃ (data : ByteArray) (k : Int) (b_b : Option Addr) (b_l b_c : Nat) (i : Int), σ = [(0, .string data), (1, .int .i64 k), (5, .slice b_b b_l b_c), (6, .int .i64 i)] ∧ I m data k b_b b_l b_c i w) ?_ m _ w ⟨data, k, b_b, b_l, b_c, i, rfl, h0⟩
  rintro m ih σ w ⟨data, k, b_b, b_l, b_c, i, rfl, hI⟩
  exact store_chunk.L1b_sound  (N1 := fun data' k' b_b' b_l' b_c' i' w' => ∃ m', m' < m ∧ I m' data' k' b_b' b_l' b_c' i' w') (fun data' k' b_b' b_l' b_c' i' w' hx => by obtain ⟨m', hlt, hI'⟩ := hx; exact ih m' hlt _ w' ⟨data', k', b_b', b_l', b_c', i', rfl, hI'⟩) data k b_b b_l b_c i w (hr m data k b_b b_l b_c i w hI)
def store_chunk.B0 (data : ByteArray) (k : Int) (w : World)   (R : ByteArray → World → Prop) : Prop :=
  Make 5 (.int .u8 (0 : Int)) 1 1 (64 : Int) (64 : Int) w fun b7 w1 =>
  store_chunk.L1 data k (some ⟨b7, 0, none⟩) 64 64 (0 : Int) w1  R
theorem store_chunk.B0_eq (data : ByteArray) (k : Int) (w : World)   (R : ByteArray → World → Prop) (sL1 : ByteArray → Int → Option Addr → Nat → Nat → Int → World → Prop) :
    (
  Make 5 (.int .u8 (0 : Int)) 1 1 (64 : Int) (64 : Int) w fun b7 w1 =>
  sL1 data k (some ⟨b7, 0, none⟩) 64 64 (0 : Int) w1) = kstep Try.prog 32 Try.f59.results.toList (Try.f59.body.getD .skip) (store_chunk.RV R) (kvc Try.prog 32 Try.f59.results.toList (Try.f59.body.getD .skip) (store_chunk.RV R) [([(0, [1, 1, 0, 1, 0, 0]), (2, [1, 1, 0, 1, 0, 0]), (1, [0]), (0, [1, 1, 1])], fun σ w => dS (slotOf σ 0) fun data_ => dI .i64 (slotOf σ 1) fun k_ => dL (slotOf σ 5) fun b_b_ b_l_ b_c_ => dI .i64 (slotOf σ 6) fun i_ => sL1 data_ k_ b_b_ b_l_ b_c_ i_ w)] 2000) [(0, [])] [(0, .string data), (1, .int .i64 k)] w := by kernel_rfl
theorem store_chunk.B0_sound {R : ByteArray → World → Prop}  (data : ByteArray) (k : Int) (w : World) (h : store_chunk.B0 data k w   R) :
    KW Try.prog 59 32 (store_chunk.RV R) ([(0, [])].map (toItem (Try.f59.body.getD .skip))) [(0, .string data), (1, .int .i64 k)] w := by
  exact block_spec Try.func59 Try.mixed (stops_cons (fun σ w h => by
      obtain ⟨data_, e0, h⟩ := dS_elim h
      obtain ⟨k_, e1, h⟩ := dI_elim h
      obtain ⟨b_b_, b_l_, b_c_, e2, h⟩ := dL_elim h
      obtain ⟨i_, e3, h⟩ := dI_elim h
      exact (store_chunk.L1_sound  data_ k_ b_b_ b_l_ b_c_ i_ w h).weaken (Sub.cons (Sub.cons (Sub.cons (Sub.cons (Sub.nil _) e3) e2) e1) e0)) stops_nil) (Eq.mp (store_chunk.B0_eq data k w   R (fun data_ k_ b_b_ b_l_ b_c_ i_ w => store_chunk.L1 data_ k_ b_b_ b_l_ b_c_ i_ w  R)) h)
theorem store_chunk.sound (data : ByteArray) (k : Int) (w : World) (R : ByteArray → World → Prop) (h : store_chunk.B0 data k w R) : store_chunk.Call data k w R := by
  have hc := calls_of_block (args := #[.string data, .int .i64 k]) Try.func59 (body := (Try.f59.body.getD .skip)) (by kernel_rfl) (by kernel_rfl) (args_slot _) (store_chunk.B0_sound data k w h)
  exact hc.mono fun e w' he => by
    obtain ⟨v, rfl, hv⟩ := he
    exact store_chunk.RV_elim hv
def store_encHead.B0 (h0_0 : Bool) (h0_1 h0_2 h0_3 h0_4 h0_5 : Int) (w : World)   (R : Option Addr → Nat → Nat → World → Prop) : Prop :=
  New (.cells #[.bool h0_0, .int .i64 h0_1, .int .i64 h0_2, .int .i64 h0_3, .int .i64 h0_4, .int .i64 h0_5] 54) w fun h0_ w1 =>
  Make 5 (.int .u8 (0 : Int)) 1 1 (64 : Int) (64 : Int) w1 fun b4 w2 =>
  LdI .i64 ⟨h0_, 1, none⟩ w2 fun x7 =>
  store_put8.Call (some ⟨b4, 0, none⟩) 64 64 (1 : Int) x7 w2 fun r8_b r8_l r8_c w3 =>
  LdI .i64 ⟨h0_, 2, none⟩ w3 fun x11 =>
  store_put8.Call r8_b r8_l r8_c (9 : Int) x11 w3 fun r12_b r12_l r12_c w4 =>
  LdI .i64 ⟨h0_, 3, none⟩ w4 fun x15 =>
  store_put8.Call r12_b r12_l r12_c (32 : Int) x15 w4 fun r16_b r16_l r16_c w5 =>
  LdI .i64 ⟨h0_, 4, none⟩ w5 fun x19 =>
  Pn r16_b fun a =>
  (0 ≤ (40 : Int) ∧ (40 : Int) < ((r16_l : Nat) : Int)) ∧
  Sts [.int .u8 (IntKind.u8.wrap x19)] (a.add 40) 0 w5 fun w6 =>
  LdI .i64 ⟨h0_, 5, none⟩ w6 fun x24 =>
  Pn r16_b fun a_1 =>
  (0 ≤ (41 : Int) ∧ (41 : Int) < ((r16_l : Nat) : Int)) ∧
  Sts [.int .u8 (IntKind.u8.wrap x24)] (a_1.add 41) 0 w6 fun w7 =>
  R r16_b r16_l r16_c w7
theorem store_encHead.B0_eq (h0_0 : Bool) (h0_1 h0_2 h0_3 h0_4 h0_5 : Int) (w : World)   (R : Option Addr → Nat → Nat → World → Prop)  :
    (
  New (.cells #[.bool h0_0, .int .i64 h0_1, .int .i64 h0_2, .int .i64 h0_3, .int .i64 h0_4, .int .i64 h0_5] 54) w fun h0_ w1 =>
  Make 5 (.int .u8 (0 : Int)) 1 1 (64 : Int) (64 : Int) w1 fun b4 w2 =>
  LdI .i64 ⟨h0_, 1, none⟩ w2 fun x7 =>
  store_put8.Call (some ⟨b4, 0, none⟩) 64 64 (1 : Int) x7 w2 fun r8_b r8_l r8_c w3 =>
  LdI .i64 ⟨h0_, 2, none⟩ w3 fun x11 =>
  store_put8.Call r8_b r8_l r8_c (9 : Int) x11 w3 fun r12_b r12_l r12_c w4 =>
  LdI .i64 ⟨h0_, 3, none⟩ w4 fun x15 =>
  store_put8.Call r12_b r12_l r12_c (32 : Int) x15 w4 fun r16_b r16_l r16_c w5 =>
  LdI .i64 ⟨h0_, 4, none⟩ w5 fun x19 =>
  Pn r16_b fun a =>
  (0 ≤ (40 : Int) ∧ (40 : Int) < ((r16_l : Nat) : Int)) ∧
  Sts [.int .u8 (IntKind.u8.wrap x19)] (a.add 40) 0 w5 fun w6 =>
  LdI .i64 ⟨h0_, 5, none⟩ w6 fun x24 =>
  Pn r16_b fun a_1 =>
  (0 ≤ (41 : Int) ∧ (41 : Int) < ((r16_l : Nat) : Int)) ∧
  Sts [.int .u8 (IntKind.u8.wrap x24)] (a_1.add 41) 0 w6 fun w7 =>
  R r16_b r16_l r16_c w7) = kstep Try.prog 28 Try.f60.results.toList (Try.f60.body.getD .skip) (store_encHead.RV R) (kvc Try.prog 28 Try.f60.results.toList (Try.f60.body.getD .skip) (store_encHead.RV R) [] 2000) [(0, [])] [(0, .agg #[.bool h0_0, .int .i64 h0_1, .int .i64 h0_2, .int .i64 h0_3, .int .i64 h0_4, .int .i64 h0_5])] w := by kernel_rfl
theorem store_encHead.B0_sound {R : Option Addr → Nat → Nat → World → Prop}  (h0_0 : Bool) (h0_1 h0_2 h0_3 h0_4 h0_5 : Int) (w : World) (h : store_encHead.B0 h0_0 h0_1 h0_2 h0_3 h0_4 h0_5 w   R) :
    KW Try.prog 60 28 (store_encHead.RV R) ([(0, [])].map (toItem (Try.f60.body.getD .skip))) [(0, .agg #[.bool h0_0, .int .i64 h0_1, .int .i64 h0_2, .int .i64 h0_3, .int .i64 h0_4, .int .i64 h0_5])] w := by
  exact block_spec Try.func60 Try.mixed stops_nil (Eq.mp (store_encHead.B0_eq h0_0 h0_1 h0_2 h0_3 h0_4 h0_5 w   R ) h)
theorem store_encHead.sound (h0_0 : Bool) (h0_1 h0_2 h0_3 h0_4 h0_5 : Int) (w : World) (R : Option Addr → Nat → Nat → World → Prop) (h : store_encHead.B0 h0_0 h0_1 h0_2 h0_3 h0_4 h0_5 w R) : store_encHead.Call h0_0 h0_1 h0_2 h0_3 h0_4 h0_5 w R := by
  have hc := calls_of_block (args := #[.agg #[.bool h0_0, .int .i64 h0_1, .int .i64 h0_2, .int .i64 h0_3, .int .i64 h0_4, .int .i64 h0_5]]) Try.func60 (body := (Try.f60.body.getD .skip)) (by kernel_rfl) (by kernel_rfl) (args_slot _) (store_encHead.B0_sound h0_0 h0_1 h0_2 h0_3 h0_4 h0_5 w h)
  exact hc.mono fun e w' he => by
    obtain ⟨v, rfl, hv⟩ := he
    exact store_encHead.RV_elim hv
def store_encRec.B1 (r : Nat) (b_b : Option Addr) (b_l b_c : Nat) (i : Int) (t26 : Bool) (w : World) (N1 : Nat → Option Addr → Nat → Nat → Int → World → Prop)  (R : Option Addr → Nat → Nat → World → Prop) : Prop :=
  Bm t26 (
    LdS ⟨r, 2, none⟩ w fun x33 =>
    (0 ≤ i ∧ i < ((x33.size : Nat) : Int)) ∧
    Pn b_b fun a =>
    (0 ≤ (IntKind.i64.wrap ((11 : Int) + i)) ∧ (IntKind.i64.wrap ((11 : Int) + i)) < ((b_l : Nat) : Int)) ∧
    Sts [.int .u8 (byteAt x33 i)] (Addr.add a ((IntKind.i64.wrap ((11 : Int) + i)).toNat * 1)) 0 w fun w1 =>
    N1 r b_b b_l b_c (IntKind.i64.wrap (i + (1 : Int))) w1) (
    LdI .i64 ⟨r, 1, none⟩ w fun x39 =>
    store_put8.Call b_b b_l b_c (35 : Int) x39 w fun r40_b r40_l r40_c w2 =>
    R r40_b r40_l r40_c w2)
theorem store_encRec.B1_eq (r : Nat) (b_b : Option Addr) (b_l b_c : Nat) (i : Int) (t26 : Bool) (w : World) (N1 : Nat → Option Addr → Nat → Nat → Int → World → Prop)  (R : Option Addr → Nat → Nat → World → Prop)  :
    (
  Bm t26 (
    LdS ⟨r, 2, none⟩ w fun x33 =>
    (0 ≤ i ∧ i < ((x33.size : Nat) : Int)) ∧
    Pn b_b fun a =>
    (0 ≤ (IntKind.i64.wrap ((11 : Int) + i)) ∧ (IntKind.i64.wrap ((11 : Int) + i)) < ((b_l : Nat) : Int)) ∧
    Sts [.int .u8 (byteAt x33 i)] (Addr.add a ((IntKind.i64.wrap ((11 : Int) + i)).toNat * 1)) 0 w fun w1 =>
    N1 r b_b b_l b_c (IntKind.i64.wrap (i + (1 : Int))) w1) (
    LdI .i64 ⟨r, 1, none⟩ w fun x39 =>
    store_put8.Call b_b b_l b_c (35 : Int) x39 w fun r40_b r40_l r40_c w2 =>
    R r40_b r40_l r40_c w2)) = kstep Try.prog 41 Try.f61.results.toList (Try.f61.body.getD .skip) (store_encRec.RV R) (kvc Try.prog 41 Try.f61.results.toList (Try.f61.body.getD .skip) (store_encRec.RV R) [([(0, [1, 1, 1, 1, 1, 0, 1, 0, 0]), (2, [1, 1, 1, 1, 1, 0, 1, 0, 0]), (1, [0]), (0, [1, 1, 1, 1, 1, 1])], fun σ w => dK (slotOf σ 1) fun r_ => dL (slotOf σ 3) fun b_b_ b_l_ b_c_ => dI .i64 (slotOf σ 4) fun i_ => N1 r_ b_b_ b_l_ b_c_ i_ w)] 2000) [(0, [1, 1, 1, 1, 1, 0, 1, 0, 0, 0, 1]), (0, [1, 1, 1, 1, 1, 0, 1, 0, 0, 1]), (2, [1, 1, 1, 1, 1, 0, 1, 0, 0]), (1, [0]), (0, [1, 1, 1, 1, 1, 1])] [(1, .pointer (some ⟨r, 0, none⟩)), (3, .slice b_b b_l b_c), (4, .int .i64 i), (26, .bool t26)] w := by kernel_rfl
theorem store_encRec.B1_sound {R : Option Addr → Nat → Nat → World → Prop} {N1 : Nat → Option Addr → Nat → Nat → Int → World → Prop} (hN1 : ∀ r b_b b_l b_c i w, N1 r b_b b_l b_c i w → KW Try.prog 61 41 (store_encRec.RV R) ([(0, [1, 1, 1, 1, 1, 0, 1, 0, 0]), (2, [1, 1, 1, 1, 1, 0, 1, 0, 0]), (1, [0]), (0, [1, 1, 1, 1, 1, 1])].map (toItem (Try.f61.body.getD .skip))) [(1, .pointer (some ⟨r, 0, none⟩)), (3, .slice b_b b_l b_c), (4, .int .i64 i)] w) (r : Nat) (b_b : Option Addr) (b_l b_c : Nat) (i : Int) (t26 : Bool) (w : World) (h : store_encRec.B1 r b_b b_l b_c i t26 w N1  R) :
    KW Try.prog 61 41 (store_encRec.RV R) ([(0, [1, 1, 1, 1, 1, 0, 1, 0, 0, 0, 1]), (0, [1, 1, 1, 1, 1, 0, 1, 0, 0, 1]), (2, [1, 1, 1, 1, 1, 0, 1, 0, 0]), (1, [0]), (0, [1, 1, 1, 1, 1, 1])].map (toItem (Try.f61.body.getD .skip))) [(1, .pointer (some ⟨r, 0, none⟩)), (3, .slice b_b b_l b_c), (4, .int .i64 i), (26, .bool t26)] w := by
  exact block_spec Try.func61 Try.mixed (stops_cons (fun σ w h => by
      obtain ⟨r_, e0, h⟩ := dK_elim h
      obtain ⟨b_b_, b_l_, b_c_, e1, h⟩ := dL_elim h
      obtain ⟨i_, e2, h⟩ := dI_elim h
      exact (hN1 r_ b_b_ b_l_ b_c_ i_ w h).weaken (Sub.cons (Sub.cons (Sub.cons (Sub.nil _) e2) e1) e0)) stops_nil) (Eq.mp (store_encRec.B1_eq r b_b b_l b_c i t26 w N1  R ) h)
def store_encRec.L1b (r : Nat) (b_b : Option Addr) (b_l b_c : Nat) (i : Int) (w : World)  (N1 : Nat → Option Addr → Nat → Nat → Int → World → Prop) (R : Option Addr → Nat → Nat → World → Prop) : Prop :=
  LdS ⟨r, 2, none⟩ w fun x20 =>
  Bm (decide (i < ((x20.size : Nat) : Int))) (
    store_encRec.B1 r b_b b_l b_c i (decide (i < (24 : Int))) w N1 R) (
    store_encRec.B1 r b_b b_l b_c i false w N1 R)
theorem store_encRec.L1b_eq (r : Nat) (b_b : Option Addr) (b_l b_c : Nat) (i : Int) (w : World)  (N1 : Nat → Option Addr → Nat → Nat → Int → World → Prop) (R : Option Addr → Nat → Nat → World → Prop) (sB1 : Nat → Option Addr → Nat → Nat → Int → Bool → World → Prop) :
    (
  LdS ⟨r, 2, none⟩ w fun x20 =>
  Bm (decide (i < ((x20.size : Nat) : Int))) (
    sB1 r b_b b_l b_c i (decide (i < (24 : Int))) w) (
    sB1 r b_b b_l b_c i false w)) = kstep Try.prog 41 Try.f61.results.toList (Try.f61.body.getD .skip) (store_encRec.RV R) (kvc Try.prog 41 Try.f61.results.toList (Try.f61.body.getD .skip) (store_encRec.RV R) [([(0, [1, 1, 1, 1, 1, 0, 1, 0, 0, 0, 1]), (0, [1, 1, 1, 1, 1, 0, 1, 0, 0, 1]), (2, [1, 1, 1, 1, 1, 0, 1, 0, 0]), (1, [0]), (0, [1, 1, 1, 1, 1, 1])], fun σ w => dK (slotOf σ 1) fun r_ => dL (slotOf σ 3) fun b_b_ b_l_ b_c_ => dI .i64 (slotOf σ 4) fun i_ => dB (slotOf σ 26) fun t26_ => sB1 r_ b_b_ b_l_ b_c_ i_ t26_ w)] 2000) [(0, [1, 1, 1, 1, 1, 0, 1, 0, 0]), (2, [1, 1, 1, 1, 1, 0, 1, 0, 0]), (1, [0]), (0, [1, 1, 1, 1, 1, 1])] [(1, .pointer (some ⟨r, 0, none⟩)), (3, .slice b_b b_l b_c), (4, .int .i64 i)] w := by kernel_rfl
theorem store_encRec.L1b_sound {R : Option Addr → Nat → Nat → World → Prop} {N1 : Nat → Option Addr → Nat → Nat → Int → World → Prop} (hN1 : ∀ r b_b b_l b_c i w, N1 r b_b b_l b_c i w → KW Try.prog 61 41 (store_encRec.RV R) ([(0, [1, 1, 1, 1, 1, 0, 1, 0, 0]), (2, [1, 1, 1, 1, 1, 0, 1, 0, 0]), (1, [0]), (0, [1, 1, 1, 1, 1, 1])].map (toItem (Try.f61.body.getD .skip))) [(1, .pointer (some ⟨r, 0, none⟩)), (3, .slice b_b b_l b_c), (4, .int .i64 i)] w) (r : Nat) (b_b : Option Addr) (b_l b_c : Nat) (i : Int) (w : World) (h : store_encRec.L1b r b_b b_l b_c i w  N1 R) :
    KW Try.prog 61 41 (store_encRec.RV R) ([(0, [1, 1, 1, 1, 1, 0, 1, 0, 0]), (2, [1, 1, 1, 1, 1, 0, 1, 0, 0]), (1, [0]), (0, [1, 1, 1, 1, 1, 1])].map (toItem (Try.f61.body.getD .skip))) [(1, .pointer (some ⟨r, 0, none⟩)), (3, .slice b_b b_l b_c), (4, .int .i64 i)] w := by
  exact block_spec Try.func61 Try.mixed (stops_cons (fun σ w h => by
      obtain ⟨r_, e0, h⟩ := dK_elim h
      obtain ⟨b_b_, b_l_, b_c_, e1, h⟩ := dL_elim h
      obtain ⟨i_, e2, h⟩ := dI_elim h
      obtain ⟨t26_, e3, h⟩ := dB_elim h
      exact (store_encRec.B1_sound hN1 r_ b_b_ b_l_ b_c_ i_ t26_ w h).weaken (Sub.cons (Sub.cons (Sub.cons (Sub.cons (Sub.nil _) e3) e2) e1) e0)) stops_nil) (Eq.mp (store_encRec.L1b_eq r b_b b_l b_c i w  N1 R (fun r_ b_b_ b_l_ b_c_ i_ t26_ w => store_encRec.B1 r_ b_b_ b_l_ b_c_ i_ t26_ w N1 R)) h)
def store_encRec.L1 (r : Nat) (b_b : Option Addr) (b_l b_c : Nat) (i : Int) (w : World)  (R : Option Addr → Nat → Nat → World → Prop) : Prop :=
  ∃ (I : Nat → Nat → Option Addr → Nat → Nat → Int → World → Prop) (m : Nat), I m r b_b b_l b_c i w ∧ ∀ m r b_b b_l b_c i w, I m r b_b b_l b_c i w → store_encRec.L1b r b_b b_l b_c i w  (fun r' b_b' b_l' b_c' i' w' => ∃ m', m' < m ∧ I m' r' b_b' b_l' b_c' i' w') R
theorem store_encRec.L1_sound {R : Option Addr → Nat → Nat → World → Prop}  (r : Nat) (b_b : Option Addr) (b_l b_c : Nat) (i : Int) (w : World) (h : store_encRec.L1 r b_b b_l b_c i w  R) :
    KW Try.prog 61 41 (store_encRec.RV R) ([(0, [1, 1, 1, 1, 1, 0, 1, 0, 0]), (2, [1, 1, 1, 1, 1, 0, 1, 0, 0]), (1, [0]), (0, [1, 1, 1, 1, 1, 1])].map (toItem (Try.f61.body.getD .skip))) [(1, .pointer (some ⟨r, 0, none⟩)), (3, .slice b_b b_l b_c), (4, .int .i64 i)] w := by
  obtain ⟨I, m, h0, hr⟩ := h
  refine KW.loop (fun m σ w => ∃ (r : Nat) (b_b : Option Addr) (b_l b_c : Nat) (i : Int), σ = [(1, .pointer (some ⟨r, 0, none⟩)), (3, .slice b_b b_l b_c), (4, .int .i64 i)] ∧ I m r b_b b_l b_c i w) ?_ m _ w ⟨r, b_b, b_l, b_c, i, rfl, h0⟩
  rintro m ih σ w ⟨r, b_b, b_l, b_c, i, rfl, hI⟩
  exact store_encRec.L1b_sound  (N1 := fun r' b_b' b_l' b_c' i' w' => ∃ m', m' < m ∧ I m' r' b_b' b_l' b_c' i' w') (fun r' b_b' b_l' b_c' i' w' hx => by obtain ⟨m', hlt, hI'⟩ := hx; exact ih m' hlt _ w' ⟨r', b_b', b_l', b_c', i', rfl, hI'⟩) r b_b b_l b_c i w (hr m r b_b b_l b_c i w hI)
def store_encRec.B0 (r_0 r_1 : Int) (r_2 : ByteArray) (w : World)   (R : Option Addr → Nat → Nat → World → Prop) : Prop :=
  New (.cells #[.int .i64 r_0, .int .i64 r_1, .string r_2] 38) w fun r_ w1 =>
  Make 5 (.int .u8 (0 : Int)) 1 1 (64 : Int) (64 : Int) w1 fun b5 w2 =>
  (0 ≤ (1 : Int) ∧ (1 : Int) < ((64 : Nat) : Int)) ∧
  Sts [.int .u8 (1 : Int)] ⟨b5, 1, none⟩ 0 w2 fun w3 =>
  LdI .i64 ⟨r_, 0, none⟩ w3 fun x10 =>
  store_put8.Call (some ⟨b5, 0, none⟩) 64 64 (2 : Int) x10 w3 fun r11_b r11_l r11_c w4 =>
  LdS ⟨r_, 2, none⟩ w4 fun x14 =>
  Pn r11_b fun a =>
  (0 ≤ (10 : Int) ∧ (10 : Int) < ((r11_l : Nat) : Int)) ∧
  Sts [.int .u8 (IntKind.u8.wrap ((x14.size : Nat) : Int))] (a.add 10) 0 w4 fun w5 =>
  store_encRec.L1 r_ r11_b r11_l r11_c (0 : Int) w5  R
theorem store_encRec.B0_eq (r_0 r_1 : Int) (r_2 : ByteArray) (w : World)   (R : Option Addr → Nat → Nat → World → Prop) (sL1 : Nat → Option Addr → Nat → Nat → Int → World → Prop) :
    (
  New (.cells #[.int .i64 r_0, .int .i64 r_1, .string r_2] 38) w fun r_ w1 =>
  Make 5 (.int .u8 (0 : Int)) 1 1 (64 : Int) (64 : Int) w1 fun b5 w2 =>
  (0 ≤ (1 : Int) ∧ (1 : Int) < ((64 : Nat) : Int)) ∧
  Sts [.int .u8 (1 : Int)] ⟨b5, 1, none⟩ 0 w2 fun w3 =>
  LdI .i64 ⟨r_, 0, none⟩ w3 fun x10 =>
  store_put8.Call (some ⟨b5, 0, none⟩) 64 64 (2 : Int) x10 w3 fun r11_b r11_l r11_c w4 =>
  LdS ⟨r_, 2, none⟩ w4 fun x14 =>
  Pn r11_b fun a =>
  (0 ≤ (10 : Int) ∧ (10 : Int) < ((r11_l : Nat) : Int)) ∧
  Sts [.int .u8 (IntKind.u8.wrap ((x14.size : Nat) : Int))] (a.add 10) 0 w4 fun w5 =>
  sL1 r_ r11_b r11_l r11_c (0 : Int) w5) = kstep Try.prog 41 Try.f61.results.toList (Try.f61.body.getD .skip) (store_encRec.RV R) (kvc Try.prog 41 Try.f61.results.toList (Try.f61.body.getD .skip) (store_encRec.RV R) [([(0, [1, 1, 1, 1, 1, 0, 1, 0, 0]), (2, [1, 1, 1, 1, 1, 0, 1, 0, 0]), (1, [0]), (0, [1, 1, 1, 1, 1, 1])], fun σ w => dK (slotOf σ 1) fun r_ => dL (slotOf σ 3) fun b_b_ b_l_ b_c_ => dI .i64 (slotOf σ 4) fun i_ => sL1 r_ b_b_ b_l_ b_c_ i_ w)] 2000) [(0, [])] [(0, .agg #[.int .i64 r_0, .int .i64 r_1, .string r_2])] w := by kernel_rfl
theorem store_encRec.B0_sound {R : Option Addr → Nat → Nat → World → Prop}  (r_0 r_1 : Int) (r_2 : ByteArray) (w : World) (h : store_encRec.B0 r_0 r_1 r_2 w   R) :
    KW Try.prog 61 41 (store_encRec.RV R) ([(0, [])].map (toItem (Try.f61.body.getD .skip))) [(0, .agg #[.int .i64 r_0, .int .i64 r_1, .string r_2])] w := by
  exact block_spec Try.func61 Try.mixed (stops_cons (fun σ w h => by
      obtain ⟨r_, e0, h⟩ := dK_elim h
      obtain ⟨b_b_, b_l_, b_c_, e1, h⟩ := dL_elim h
      obtain ⟨i_, e2, h⟩ := dI_elim h
      exact (store_encRec.L1_sound  r_ b_b_ b_l_ b_c_ i_ w h).weaken (Sub.cons (Sub.cons (Sub.cons (Sub.nil _) e2) e1) e0)) stops_nil) (Eq.mp (store_encRec.B0_eq r_0 r_1 r_2 w   R (fun r_ b_b_ b_l_ b_c_ i_ w => store_encRec.L1 r_ b_b_ b_l_ b_c_ i_ w  R)) h)
theorem store_encRec.sound (r_0 r_1 : Int) (r_2 : ByteArray) (w : World) (R : Option Addr → Nat → Nat → World → Prop) (h : store_encRec.B0 r_0 r_1 r_2 w R) : store_encRec.Call r_0 r_1 r_2 w R := by
  have hc := calls_of_block (args := #[.agg #[.int .i64 r_0, .int .i64 r_1, .string r_2]]) Try.func61 (body := (Try.f61.body.getD .skip)) (by kernel_rfl) (by kernel_rfl) (args_slot _) (store_encRec.B0_sound r_0 r_1 r_2 w h)
  exact hc.mono fun e w' he => by
    obtain ⟨v, rfl, hv⟩ := he
    exact store_encRec.RV_elim hv
def storem_Store_Rec.B1 (t : Option Addr) (slot : Int) (t4 : Nat) (t11 : Bool) (w : World)   (R : Int → Int → ByteArray → Int → World → Prop) : Prop :=
  Bm t11 (
    Sts [.int .i64 (0 : Int), .int .i64 (0 : Int), .string (ByteArray.mk #[])] ⟨t4, 0, none⟩ 0 w fun w1 =>
    LdI .i64 ⟨t4, 0, none⟩ w1 fun r_0 =>
    LdI .i64 ⟨t4, 1, none⟩ w1 fun r_1 =>
    LdS ⟨t4, 2, none⟩ w1 fun r_2 =>
    R r_0 r_1 r_2 (1 : Int) w1) (
    Pn t fun a =>
    LdP a w fun x16 =>
    Pn x16 fun a_1 =>
    (0 ≤ slot ∧ slot < ((6 : Nat) : Int)) ∧
    LdB (Addr.add (a_1.add 5) (slot.toNat * 1)) w fun x21 =>
    Bm (!x21) (
      Sts [.int .i64 (0 : Int), .int .i64 (0 : Int), .string (ByteArray.mk #[])] ⟨t4, 0, none⟩ 0 w fun w2 =>
      LdI .i64 ⟨t4, 0, none⟩ w2 fun r_0_1 =>
      LdI .i64 ⟨t4, 1, none⟩ w2 fun r_1_1 =>
      LdS ⟨t4, 2, none⟩ w2 fun r_2_1 =>
      R r_0_1 r_1_1 r_2_1 (2 : Int) w2) (
      Pn t fun a_2 =>
      LdP a_2 w fun x27 =>
      Pn x27 fun a_3 =>
      (0 ≤ slot ∧ slot < ((6 : Nat) : Int)) ∧
      LdI .i64 (Addr.add (a_3.add 11) (slot.toNat * 3)) w fun x32_0 =>
      LdI .i64 ((Addr.add (a_3.add 11) (slot.toNat * 3)).add 1) w fun x32_1 =>
      LdS ((Addr.add (a_3.add 11) (slot.toNat * 3)).add 2) w fun x32_2 =>
      Sts [.int .i64 x32_0, .int .i64 x32_1, .string x32_2] ⟨t4, 0, none⟩ 0 w fun w3 =>
      LdI .i64 ⟨t4, 0, none⟩ w3 fun r_0_2 =>
      LdI .i64 ⟨t4, 1, none⟩ w3 fun r_1_2 =>
      LdS ⟨t4, 2, none⟩ w3 fun r_2_2 =>
      R r_0_2 r_1_2 r_2_2 (0 : Int) w3))
theorem storem_Store_Rec.B1_eq (t : Option Addr) (slot : Int) (t4 : Nat) (t11 : Bool) (w : World)   (R : Int → Int → ByteArray → Int → World → Prop)  :
    (
  Bm t11 (
    Sts [.int .i64 (0 : Int), .int .i64 (0 : Int), .string (ByteArray.mk #[])] ⟨t4, 0, none⟩ 0 w fun w1 =>
    LdI .i64 ⟨t4, 0, none⟩ w1 fun r_0 =>
    LdI .i64 ⟨t4, 1, none⟩ w1 fun r_1 =>
    LdS ⟨t4, 2, none⟩ w1 fun r_2 =>
    R r_0 r_1 r_2 (1 : Int) w1) (
    Pn t fun a =>
    LdP a w fun x16 =>
    Pn x16 fun a_1 =>
    (0 ≤ slot ∧ slot < ((6 : Nat) : Int)) ∧
    LdB (Addr.add (a_1.add 5) (slot.toNat * 1)) w fun x21 =>
    Bm (!x21) (
      Sts [.int .i64 (0 : Int), .int .i64 (0 : Int), .string (ByteArray.mk #[])] ⟨t4, 0, none⟩ 0 w fun w2 =>
      LdI .i64 ⟨t4, 0, none⟩ w2 fun r_0_1 =>
      LdI .i64 ⟨t4, 1, none⟩ w2 fun r_1_1 =>
      LdS ⟨t4, 2, none⟩ w2 fun r_2_1 =>
      R r_0_1 r_1_1 r_2_1 (2 : Int) w2) (
      Pn t fun a_2 =>
      LdP a_2 w fun x27 =>
      Pn x27 fun a_3 =>
      (0 ≤ slot ∧ slot < ((6 : Nat) : Int)) ∧
      LdI .i64 (Addr.add (a_3.add 11) (slot.toNat * 3)) w fun x32_0 =>
      LdI .i64 ((Addr.add (a_3.add 11) (slot.toNat * 3)).add 1) w fun x32_1 =>
      LdS ((Addr.add (a_3.add 11) (slot.toNat * 3)).add 2) w fun x32_2 =>
      Sts [.int .i64 x32_0, .int .i64 x32_1, .string x32_2] ⟨t4, 0, none⟩ 0 w fun w3 =>
      LdI .i64 ⟨t4, 0, none⟩ w3 fun r_0_2 =>
      LdI .i64 ⟨t4, 1, none⟩ w3 fun r_1_2 =>
      LdS ⟨t4, 2, none⟩ w3 fun r_2_2 =>
      R r_0_2 r_1_2 r_2_2 (0 : Int) w3))) = kstep Try.prog 33 Try.f62.results.toList (Try.f62.body.getD .skip) (storem_Store_Rec.RV R) (kvc Try.prog 33 Try.f62.results.toList (Try.f62.body.getD .skip) (storem_Store_Rec.RV R) [] 2000) [(0, [1, 0, 1]), (0, [1, 1])] [(0, .pointer t), (1, .int .i64 slot), (4, .pointer (some ⟨t4, 0, none⟩)), (11, .bool t11)] w := by kernel_rfl
theorem storem_Store_Rec.B1_sound {R : Int → Int → ByteArray → Int → World → Prop}  (t : Option Addr) (slot : Int) (t4 : Nat) (t11 : Bool) (w : World) (h : storem_Store_Rec.B1 t slot t4 t11 w   R) :
    KW Try.prog 62 33 (storem_Store_Rec.RV R) ([(0, [1, 0, 1]), (0, [1, 1])].map (toItem (Try.f62.body.getD .skip))) [(0, .pointer t), (1, .int .i64 slot), (4, .pointer (some ⟨t4, 0, none⟩)), (11, .bool t11)] w := by
  exact block_spec Try.func62 Try.mixed stops_nil (Eq.mp (storem_Store_Rec.B1_eq t slot t4 t11 w   R ) h)
def storem_Store_Rec.B0 (t : Option Addr) (slot : Int) (w : World)   (R : Int → Int → ByteArray → Int → World → Prop) : Prop :=
  New (.cells #[.int .i64 (0 : Int), .int .i64 (0 : Int), .string (ByteArray.mk #[])] 38) w fun b4 w1 =>
  Bm (decide (slot < (0 : Int))) (
    storem_Store_Rec.B1 t slot b4 true w1  R) (
    storem_Store_Rec.B1 t slot b4 (decide (slot ≥ (6 : Int))) w1  R)
theorem storem_Store_Rec.B0_eq (t : Option Addr) (slot : Int) (w : World)   (R : Int → Int → ByteArray → Int → World → Prop) (sB1 : Option Addr → Int → Nat → Bool → World → Prop) :
    (
  New (.cells #[.int .i64 (0 : Int), .int .i64 (0 : Int), .string (ByteArray.mk #[])] 38) w fun b4 w1 =>
  Bm (decide (slot < (0 : Int))) (
    sB1 t slot b4 true w1) (
    sB1 t slot b4 (decide (slot ≥ (6 : Int))) w1)) = kstep Try.prog 33 Try.f62.results.toList (Try.f62.body.getD .skip) (storem_Store_Rec.RV R) (kvc Try.prog 33 Try.f62.results.toList (Try.f62.body.getD .skip) (storem_Store_Rec.RV R) [([(0, [1, 0, 1]), (0, [1, 1])], fun σ w => dP (slotOf σ 0) fun t_ => dI .i64 (slotOf σ 1) fun slot_ => dK (slotOf σ 4) fun t4_ => dB (slotOf σ 11) fun t11_ => sB1 t_ slot_ t4_ t11_ w)] 2000) [(0, [])] [(0, .pointer t), (1, .int .i64 slot)] w := by kernel_rfl
theorem storem_Store_Rec.B0_sound {R : Int → Int → ByteArray → Int → World → Prop}  (t : Option Addr) (slot : Int) (w : World) (h : storem_Store_Rec.B0 t slot w   R) :
    KW Try.prog 62 33 (storem_Store_Rec.RV R) ([(0, [])].map (toItem (Try.f62.body.getD .skip))) [(0, .pointer t), (1, .int .i64 slot)] w := by
  exact block_spec Try.func62 Try.mixed (stops_cons (fun σ w h => by
      obtain ⟨t_, e0, h⟩ := dP_elim h
      obtain ⟨slot_, e1, h⟩ := dI_elim h
      obtain ⟨t4_, e2, h⟩ := dK_elim h
      obtain ⟨t11_, e3, h⟩ := dB_elim h
      exact (storem_Store_Rec.B1_sound  t_ slot_ t4_ t11_ w h).weaken (Sub.cons (Sub.cons (Sub.cons (Sub.cons (Sub.nil _) e3) e2) e1) e0)) stops_nil) (Eq.mp (storem_Store_Rec.B0_eq t slot w   R (fun t_ slot_ t4_ t11_ w => storem_Store_Rec.B1 t_ slot_ t4_ t11_ w  R)) h)
theorem storem_Store_Rec.sound (t : Option Addr) (slot : Int) (w : World) (R : Int → Int → ByteArray → Int → World → Prop) (h : storem_Store_Rec.B0 t slot w R) : storem_Store_Rec.Call t slot w R := by
  have hc := calls_of_block (args := #[.pointer t, .int .i64 slot]) Try.func62 (body := (Try.f62.body.getD .skip)) (by kernel_rfl) (by kernel_rfl) (args_slot _) (storem_Store_Rec.B0_sound t slot w h)
  exact hc.mono fun e w' he => by
    obtain ⟨v, rfl, hv⟩ := he
    exact storem_Store_Rec.RV_elim hv
def storem_Store_Meta.B0 (t : Option Addr) (w : World)   (R : Int → Int → World → Prop) : Prop :=
  Pn t fun a =>
  LdP a w.drew fun x7 =>
  Pn x7 fun a_1 =>
  LdI .i64 a_1 w.drew fun x10 =>
  Pn t fun a_2 =>
  LdP a_2 w.drew fun x14 =>
  Pn x14 fun a_3 =>
  LdI .i64 (a_3.add 1) w.drew fun x17 =>
  R x10 x17 w.drew
theorem storem_Store_Meta.B0_eq (t : Option Addr) (w : World)   (R : Int → Int → World → Prop)  :
    (
  Pn t fun a =>
  LdP a w.drew fun x7 =>
  Pn x7 fun a_1 =>
  LdI .i64 a_1 w.drew fun x10 =>
  Pn t fun a_2 =>
  LdP a_2 w.drew fun x14 =>
  Pn x14 fun a_3 =>
  LdI .i64 (a_3.add 1) w.drew fun x17 =>
  R x10 x17 w.drew) = kstep Try.prog 18 Try.f63.results.toList (Try.f63.body.getD .skip) (storem_Store_Meta.RV R) (kvc Try.prog 18 Try.f63.results.toList (Try.f63.body.getD .skip) (storem_Store_Meta.RV R) [] 2000) [(0, [])] [(0, .pointer t)] w := by kernel_rfl
theorem storem_Store_Meta.B0_sound {R : Int → Int → World → Prop}  (t : Option Addr) (w : World) (h : storem_Store_Meta.B0 t w   R) :
    KW Try.prog 63 18 (storem_Store_Meta.RV R) ([(0, [])].map (toItem (Try.f63.body.getD .skip))) [(0, .pointer t)] w := by
  exact block_spec Try.func63 Try.mixed stops_nil (Eq.mp (storem_Store_Meta.B0_eq t w   R ) h)
theorem storem_Store_Meta.sound (t : Option Addr) (w : World) (R : Int → Int → World → Prop) (h : storem_Store_Meta.B0 t w R) : storem_Store_Meta.Call t w R := by
  have hc := calls_of_block (args := #[.pointer t]) Try.func63 (body := (Try.f63.body.getD .skip)) (by kernel_rfl) (by kernel_rfl) (args_slot _) (storem_Store_Meta.B0_sound t w h)
  exact hc.mono fun e w' he => by
    obtain ⟨v, rfl, hv⟩ := he
    exact storem_Store_Meta.RV_elim hv
def storem_Store_Snap.B0 (t : Option Addr) (w : World)   (R : Int → Int → ByteArray → World → Prop) : Prop :=
  Pn t fun a =>
  LdP a w.drew fun x8 =>
  Pn x8 fun a_1 =>
  LdI .i64 (a_1.add 2) w.drew fun x11 =>
  Pn t fun a_2 =>
  LdP a_2 w.drew fun x15 =>
  Pn x15 fun a_3 =>
  LdI .i64 (a_3.add 3) w.drew fun x18 =>
  Pn t fun a_4 =>
  LdP a_4 w.drew fun x22 =>
  Pn x22 fun a_5 =>
  LdS (a_5.add 4) w.drew fun x25 =>
  R x11 x18 x25 w.drew
theorem storem_Store_Snap.B0_eq (t : Option Addr) (w : World)   (R : Int → Int → ByteArray → World → Prop)  :
    (
  Pn t fun a =>
  LdP a w.drew fun x8 =>
  Pn x8 fun a_1 =>
  LdI .i64 (a_1.add 2) w.drew fun x11 =>
  Pn t fun a_2 =>
  LdP a_2 w.drew fun x15 =>
  Pn x15 fun a_3 =>
  LdI .i64 (a_3.add 3) w.drew fun x18 =>
  Pn t fun a_4 =>
  LdP a_4 w.drew fun x22 =>
  Pn x22 fun a_5 =>
  LdS (a_5.add 4) w.drew fun x25 =>
  R x11 x18 x25 w.drew) = kstep Try.prog 26 Try.f64.results.toList (Try.f64.body.getD .skip) (storem_Store_Snap.RV R) (kvc Try.prog 26 Try.f64.results.toList (Try.f64.body.getD .skip) (storem_Store_Snap.RV R) [] 2000) [(0, [])] [(0, .pointer t)] w := by kernel_rfl
theorem storem_Store_Snap.B0_sound {R : Int → Int → ByteArray → World → Prop}  (t : Option Addr) (w : World) (h : storem_Store_Snap.B0 t w   R) :
    KW Try.prog 64 26 (storem_Store_Snap.RV R) ([(0, [])].map (toItem (Try.f64.body.getD .skip))) [(0, .pointer t)] w := by
  exact block_spec Try.func64 Try.mixed stops_nil (Eq.mp (storem_Store_Snap.B0_eq t w   R ) h)
theorem storem_Store_Snap.sound (t : Option Addr) (w : World) (R : Int → Int → ByteArray → World → Prop) (h : storem_Store_Snap.B0 t w R) : storem_Store_Snap.Call t w R := by
  have hc := calls_of_block (args := #[.pointer t]) Try.func64 (body := (Try.f64.body.getD .skip)) (by kernel_rfl) (by kernel_rfl) (args_slot _) (storem_Store_Snap.B0_sound t w h)
  exact hc.mono fun e w' he => by
    obtain ⟨v, rfl, hv⟩ := he
    exact storem_Store_Snap.RV_elim hv
end Go.Proofs.Qxb6500432a
