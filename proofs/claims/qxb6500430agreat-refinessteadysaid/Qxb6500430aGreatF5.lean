import Derived.Test.Qxb6500430aGreatSig
set_option maxRecDepth 100000
set_option linter.unusedVariables false
open Go.Vc
namespace Go.Proofs.Qxb6500430aGreat
def diskm_Disk_After.B2 (d : Option Addr) (k : Int) (n : Nat) (j : Int) (w : World) (N1 : Option Addr → Int → Nat → Int → World → Prop)  (R : Option Addr → World → Prop) : Prop :=
  N1 d k n (IntKind.i64.wrap (j + (1 : Int))) w
theorem diskm_Disk_After.B2_eq (d : Option Addr) (k : Int) (n : Nat) (j : Int) (w : World) (N1 : Option Addr → Int → Nat → Int → World → Prop)  (R : Option Addr → World → Prop)  :
    (
  N1 d k n (IntKind.i64.wrap (j + (1 : Int))) w) = kstep Tryz.prog 86 Tryz.f56.results.toList (Tryz.f56.body.getD .skip) (diskm_Disk_After.RV R) (kvc Tryz.prog 86 Tryz.f56.results.toList (Tryz.f56.body.getD .skip) (diskm_Disk_After.RV R) [([(0, [1, 1, 0, 1, 0, 0]), (2, [1, 1, 0, 1, 0, 0]), (1, [0]), (0, [1, 1, 1])], fun σ w => dP (slotOf σ 0) fun d_ => dI .i64 (slotOf σ 1) fun k_ => dK (slotOf σ 5) fun n_ => dI .i64 (slotOf σ 6) fun j_ => N1 d_ k_ n_ j_ w)] 2000) [(0, [1, 1, 0, 1, 0, 0, 1, 1]), (2, [1, 1, 0, 1, 0, 0]), (1, [0]), (0, [1, 1, 1])] [(0, .pointer d), (1, .int .i64 k), (5, .pointer (some ⟨n, 0, none⟩)), (6, .int .i64 j)] w := by kernel_rfl
theorem diskm_Disk_After.B2_sound {R : Option Addr → World → Prop} {N1 : Option Addr → Int → Nat → Int → World → Prop} (hN1 : ∀ d k n j w, N1 d k n j w → KW Tryz.prog 56 86 (diskm_Disk_After.RV R) ([(0, [1, 1, 0, 1, 0, 0]), (2, [1, 1, 0, 1, 0, 0]), (1, [0]), (0, [1, 1, 1])].map (toItem (Tryz.f56.body.getD .skip))) [(0, .pointer d), (1, .int .i64 k), (5, .pointer (some ⟨n, 0, none⟩)), (6, .int .i64 j)] w) (d : Option Addr) (k : Int) (n : Nat) (j : Int) (w : World) (h : diskm_Disk_After.B2 d k n j w N1  R) :
    KW Tryz.prog 56 86 (diskm_Disk_After.RV R) ([(0, [1, 1, 0, 1, 0, 0, 1, 1]), (2, [1, 1, 0, 1, 0, 0]), (1, [0]), (0, [1, 1, 1])].map (toItem (Tryz.f56.body.getD .skip))) [(0, .pointer d), (1, .int .i64 k), (5, .pointer (some ⟨n, 0, none⟩)), (6, .int .i64 j)] w := by
  exact block_spec Tryz.func56 Tryz.mixed (stops_cons (fun σ w h => by
      obtain ⟨d_, e0, h⟩ := dP_elim h
      obtain ⟨k_, e1, h⟩ := dI_elim h
      obtain ⟨n_, e2, h⟩ := dK_elim h
      obtain ⟨j_, e3, h⟩ := dI_elim h
      exact (hN1 d_ k_ n_ j_ w h).weaken (Sub.cons (Sub.cons (Sub.cons (Sub.cons (Sub.nil _) e3) e2) e1) e0)) stops_nil) (Eq.mp (diskm_Disk_After.B2_eq d k n j w N1  R ) h)
def diskm_Disk_After.B1 (d : Option Addr) (k : Int) (n : Nat) (j : Int) (t26 : Bool) (w : World) (N1 : Option Addr → Int → Nat → Int → World → Prop)  (R : Option Addr → World → Prop) : Prop :=
  Bm t26 (
    Pn d fun a =>
    LdL (a.add 2) w fun x32_b x32_l x32_c =>
    Pn x32_b fun a_1 =>
    (0 ≤ j ∧ j < ((x32_l : Nat) : Int)) ∧
    LdI .i64 (Addr.add a_1 (j.toNat * 3)) w fun x35_0 =>
    LdI .i64 ((Addr.add a_1 (j.toNat * 3)).add 1) w fun x35_1 =>
    LdS ((Addr.add a_1 (j.toNat * 3)).add 2) w fun x35_2 =>
    New (.cells #[.int .i64 (0 : Int), .int .i64 (0 : Int), .string (ByteArray.mk #[])] 171) w fun r_ w1 =>
    Sts [.int .i64 x35_0, .int .i64 x35_1, .string x35_2] ⟨r_, 0, none⟩ 0 w1 fun w2 =>
    LdI .i64 ⟨r_, 1, none⟩ w2 fun x37 =>
    Bm (x37 == (0 : Int)) (
      LdL ⟨n, 0, none⟩ w2.drew fun x42_b x42_l x42_c =>
      LdI .i64 ⟨r_, 0, none⟩ w2.drew fun x44 =>
      LdS ⟨r_, 2, none⟩ w2.drew fun x46 =>
      LdL ⟨n, 0, none⟩ w2.drew fun x50_b x50_l x50_c =>
      LdI .i64 ⟨r_, 0, none⟩ w2.drew fun x52 =>
      Pn x50_b fun a_2 =>
      (0 ≤ x52 ∧ x52 < ((x50_l : Nat) : Int)) ∧
      LdS (Addr.add a_2 (x52.toNat * 1)) w2.drew fun x54 =>
      (0 ≤ (32 : Int) ∧ (32 : Int) ≤ ((x54.size : Nat) : Int)) ∧
      ((x46.size + (x54.extract (32 : Int).toNat ((x54.size : Nat) : Int).toNat).size : Nat) : Int) ≤ 9223372036854775807 ∧
      Pn x42_b fun a_3 =>
      (0 ≤ x44 ∧ x44 < ((x42_l : Nat) : Int)) ∧
      Sts [.string (x46 ++ (x54.extract (32 : Int).toNat ((x54.size : Nat) : Int).toNat))] (Addr.add a_3 (x44.toNat * 1)) 0 w2.drew fun w3 =>
      diskm_Disk_After.B2 d k n j w3 N1 R) (
      LdL ⟨n, 0, none⟩ w2.drew fun x61_b x61_l x61_c =>
      LdI .i64 ⟨r_, 0, none⟩ w2.drew fun x63 =>
      LdL ⟨n, 0, none⟩ w2.drew fun x67_b x67_l x67_c =>
      LdI .i64 ⟨r_, 0, none⟩ w2.drew fun x69 =>
      Pn x67_b fun a_4 =>
      (0 ≤ x69 ∧ x69 < ((x67_l : Nat) : Int)) ∧
      LdS (Addr.add a_4 (x69.toNat * 1)) w2.drew fun x71 =>
      (0 ≤ (32 : Int) ∧ (32 : Int) ≤ ((x71.size : Nat) : Int)) ∧
      LdS ⟨r_, 2, none⟩ w2.drew fun x74 =>
      (((x71.extract ((0 : Nat) : Int).toNat (32 : Int).toNat).size + x74.size : Nat) : Int) ≤ 9223372036854775807 ∧
      Pn x61_b fun a_5 =>
      (0 ≤ x63 ∧ x63 < ((x61_l : Nat) : Int)) ∧
      Sts [.string ((x71.extract ((0 : Nat) : Int).toNat (32 : Int).toNat) ++ x74)] (Addr.add a_5 (x63.toNat * 1)) 0 w2.drew fun w4 =>
      diskm_Disk_After.B2 d k n j w4 N1 R)) (
    LdL ⟨n, 0, none⟩ w fun x81_b x81_l x81_c =>
    diskm_blocks.Call x81_b x81_l x81_c w fun r82_b r82_l r82_c w5 =>
    Sts [.slice r82_b r82_l r82_c] ⟨n, 1, none⟩ 0 w5 fun w6 =>
    R (some ⟨n, 0, none⟩) w6)
theorem diskm_Disk_After.B1_eq (d : Option Addr) (k : Int) (n : Nat) (j : Int) (t26 : Bool) (w : World) (N1 : Option Addr → Int → Nat → Int → World → Prop)  (R : Option Addr → World → Prop) (sB2 : Option Addr → Int → Nat → Int → World → Prop) :
    (
  Bm t26 (
    Pn d fun a =>
    LdL (a.add 2) w fun x32_b x32_l x32_c =>
    Pn x32_b fun a_1 =>
    (0 ≤ j ∧ j < ((x32_l : Nat) : Int)) ∧
    LdI .i64 (Addr.add a_1 (j.toNat * 3)) w fun x35_0 =>
    LdI .i64 ((Addr.add a_1 (j.toNat * 3)).add 1) w fun x35_1 =>
    LdS ((Addr.add a_1 (j.toNat * 3)).add 2) w fun x35_2 =>
    New (.cells #[.int .i64 (0 : Int), .int .i64 (0 : Int), .string (ByteArray.mk #[])] 171) w fun r_ w1 =>
    Sts [.int .i64 x35_0, .int .i64 x35_1, .string x35_2] ⟨r_, 0, none⟩ 0 w1 fun w2 =>
    LdI .i64 ⟨r_, 1, none⟩ w2 fun x37 =>
    Bm (x37 == (0 : Int)) (
      LdL ⟨n, 0, none⟩ w2.drew fun x42_b x42_l x42_c =>
      LdI .i64 ⟨r_, 0, none⟩ w2.drew fun x44 =>
      LdS ⟨r_, 2, none⟩ w2.drew fun x46 =>
      LdL ⟨n, 0, none⟩ w2.drew fun x50_b x50_l x50_c =>
      LdI .i64 ⟨r_, 0, none⟩ w2.drew fun x52 =>
      Pn x50_b fun a_2 =>
      (0 ≤ x52 ∧ x52 < ((x50_l : Nat) : Int)) ∧
      LdS (Addr.add a_2 (x52.toNat * 1)) w2.drew fun x54 =>
      (0 ≤ (32 : Int) ∧ (32 : Int) ≤ ((x54.size : Nat) : Int)) ∧
      ((x46.size + (x54.extract (32 : Int).toNat ((x54.size : Nat) : Int).toNat).size : Nat) : Int) ≤ 9223372036854775807 ∧
      Pn x42_b fun a_3 =>
      (0 ≤ x44 ∧ x44 < ((x42_l : Nat) : Int)) ∧
      Sts [.string (x46 ++ (x54.extract (32 : Int).toNat ((x54.size : Nat) : Int).toNat))] (Addr.add a_3 (x44.toNat * 1)) 0 w2.drew fun w3 =>
      sB2 d k n j w3) (
      LdL ⟨n, 0, none⟩ w2.drew fun x61_b x61_l x61_c =>
      LdI .i64 ⟨r_, 0, none⟩ w2.drew fun x63 =>
      LdL ⟨n, 0, none⟩ w2.drew fun x67_b x67_l x67_c =>
      LdI .i64 ⟨r_, 0, none⟩ w2.drew fun x69 =>
      Pn x67_b fun a_4 =>
      (0 ≤ x69 ∧ x69 < ((x67_l : Nat) : Int)) ∧
      LdS (Addr.add a_4 (x69.toNat * 1)) w2.drew fun x71 =>
      (0 ≤ (32 : Int) ∧ (32 : Int) ≤ ((x71.size : Nat) : Int)) ∧
      LdS ⟨r_, 2, none⟩ w2.drew fun x74 =>
      (((x71.extract ((0 : Nat) : Int).toNat (32 : Int).toNat).size + x74.size : Nat) : Int) ≤ 9223372036854775807 ∧
      Pn x61_b fun a_5 =>
      (0 ≤ x63 ∧ x63 < ((x61_l : Nat) : Int)) ∧
      Sts [.string ((x71.extract ((0 : Nat) : Int).toNat (32 : Int).toNat) ++ x74)] (Addr.add a_5 (x63.toNat * 1)) 0 w2.drew fun w4 =>
      sB2 d k n j w4)) (
    LdL ⟨n, 0, none⟩ w fun x81_b x81_l x81_c =>
    diskm_blocks.Call x81_b x81_l x81_c w fun r82_b r82_l r82_c w5 =>
    Sts [.slice r82_b r82_l r82_c] ⟨n, 1, none⟩ 0 w5 fun w6 =>
    R (some ⟨n, 0, none⟩) w6)) = kstep Tryz.prog 86 Tryz.f56.results.toList (Tryz.f56.body.getD .skip) (diskm_Disk_After.RV R) (kvc Tryz.prog 86 Tryz.f56.results.toList (Tryz.f56.body.getD .skip) (diskm_Disk_After.RV R) [([(0, [1, 1, 0, 1, 0, 0, 1, 1]), (2, [1, 1, 0, 1, 0, 0]), (1, [0]), (0, [1, 1, 1])], fun σ w => dP (slotOf σ 0) fun d_ => dI .i64 (slotOf σ 1) fun k_ => dK (slotOf σ 5) fun n_ => dI .i64 (slotOf σ 6) fun j_ => sB2 d_ k_ n_ j_ w)] 2000) [(0, [1, 1, 0, 1, 0, 0, 0, 1]), (0, [1, 1, 0, 1, 0, 0, 1]), (2, [1, 1, 0, 1, 0, 0]), (1, [0]), (0, [1, 1, 1])] [(0, .pointer d), (1, .int .i64 k), (5, .pointer (some ⟨n, 0, none⟩)), (6, .int .i64 j), (26, .bool t26)] w := by kernel_rfl
theorem diskm_Disk_After.B1_sound {R : Option Addr → World → Prop} {N1 : Option Addr → Int → Nat → Int → World → Prop} (hN1 : ∀ d k n j w, N1 d k n j w → KW Tryz.prog 56 86 (diskm_Disk_After.RV R) ([(0, [1, 1, 0, 1, 0, 0]), (2, [1, 1, 0, 1, 0, 0]), (1, [0]), (0, [1, 1, 1])].map (toItem (Tryz.f56.body.getD .skip))) [(0, .pointer d), (1, .int .i64 k), (5, .pointer (some ⟨n, 0, none⟩)), (6, .int .i64 j)] w) (d : Option Addr) (k : Int) (n : Nat) (j : Int) (t26 : Bool) (w : World) (h : diskm_Disk_After.B1 d k n j t26 w N1  R) :
    KW Tryz.prog 56 86 (diskm_Disk_After.RV R) ([(0, [1, 1, 0, 1, 0, 0, 0, 1]), (0, [1, 1, 0, 1, 0, 0, 1]), (2, [1, 1, 0, 1, 0, 0]), (1, [0]), (0, [1, 1, 1])].map (toItem (Tryz.f56.body.getD .skip))) [(0, .pointer d), (1, .int .i64 k), (5, .pointer (some ⟨n, 0, none⟩)), (6, .int .i64 j), (26, .bool t26)] w := by
  exact block_spec Tryz.func56 Tryz.mixed (stops_cons (fun σ w h => by
      obtain ⟨d_, e0, h⟩ := dP_elim h
      obtain ⟨k_, e1, h⟩ := dI_elim h
      obtain ⟨n_, e2, h⟩ := dK_elim h
      obtain ⟨j_, e3, h⟩ := dI_elim h
      exact (diskm_Disk_After.B2_sound hN1 d_ k_ n_ j_ w h).weaken (Sub.cons (Sub.cons (Sub.cons (Sub.cons (Sub.nil _) e3) e2) e1) e0)) stops_nil) (Eq.mp (diskm_Disk_After.B1_eq d k n j t26 w N1  R (fun d_ k_ n_ j_ w => diskm_Disk_After.B2 d_ k_ n_ j_ w N1 R)) h)
def diskm_Disk_After.L1b (d : Option Addr) (k : Int) (n : Nat) (j : Int) (w : World)  (N1 : Option Addr → Int → Nat → Int → World → Prop) (R : Option Addr → World → Prop) : Prop :=
  Pn d fun a =>
  LdL (a.add 2) w fun x19_b x19_l x19_c =>
  Bm (decide (j < ((x19_l : Nat) : Int))) (
    diskm_Disk_After.B1 d k n j (decide (j < k)) w N1 R) (
    diskm_Disk_After.B1 d k n j false w N1 R)
theorem diskm_Disk_After.L1b_eq (d : Option Addr) (k : Int) (n : Nat) (j : Int) (w : World)  (N1 : Option Addr → Int → Nat → Int → World → Prop) (R : Option Addr → World → Prop) (sB1 : Option Addr → Int → Nat → Int → Bool → World → Prop) :
    (
  Pn d fun a =>
  LdL (a.add 2) w fun x19_b x19_l x19_c =>
  Bm (decide (j < ((x19_l : Nat) : Int))) (
    sB1 d k n j (decide (j < k)) w) (
    sB1 d k n j false w)) = kstep Tryz.prog 86 Tryz.f56.results.toList (Tryz.f56.body.getD .skip) (diskm_Disk_After.RV R) (kvc Tryz.prog 86 Tryz.f56.results.toList (Tryz.f56.body.getD .skip) (diskm_Disk_After.RV R) [([(0, [1, 1, 0, 1, 0, 0, 0, 1]), (0, [1, 1, 0, 1, 0, 0, 1]), (2, [1, 1, 0, 1, 0, 0]), (1, [0]), (0, [1, 1, 1])], fun σ w => dP (slotOf σ 0) fun d_ => dI .i64 (slotOf σ 1) fun k_ => dK (slotOf σ 5) fun n_ => dI .i64 (slotOf σ 6) fun j_ => dB (slotOf σ 26) fun t26_ => sB1 d_ k_ n_ j_ t26_ w)] 2000) [(0, [1, 1, 0, 1, 0, 0]), (2, [1, 1, 0, 1, 0, 0]), (1, [0]), (0, [1, 1, 1])] [(0, .pointer d), (1, .int .i64 k), (5, .pointer (some ⟨n, 0, none⟩)), (6, .int .i64 j)] w := by kernel_rfl
theorem diskm_Disk_After.L1b_sound {R : Option Addr → World → Prop} {N1 : Option Addr → Int → Nat → Int → World → Prop} (hN1 : ∀ d k n j w, N1 d k n j w → KW Tryz.prog 56 86 (diskm_Disk_After.RV R) ([(0, [1, 1, 0, 1, 0, 0]), (2, [1, 1, 0, 1, 0, 0]), (1, [0]), (0, [1, 1, 1])].map (toItem (Tryz.f56.body.getD .skip))) [(0, .pointer d), (1, .int .i64 k), (5, .pointer (some ⟨n, 0, none⟩)), (6, .int .i64 j)] w) (d : Option Addr) (k : Int) (n : Nat) (j : Int) (w : World) (h : diskm_Disk_After.L1b d k n j w  N1 R) :
    KW Tryz.prog 56 86 (diskm_Disk_After.RV R) ([(0, [1, 1, 0, 1, 0, 0]), (2, [1, 1, 0, 1, 0, 0]), (1, [0]), (0, [1, 1, 1])].map (toItem (Tryz.f56.body.getD .skip))) [(0, .pointer d), (1, .int .i64 k), (5, .pointer (some ⟨n, 0, none⟩)), (6, .int .i64 j)] w := by
  exact block_spec Tryz.func56 Tryz.mixed (stops_cons (fun σ w h => by
      obtain ⟨d_, e0, h⟩ := dP_elim h
      obtain ⟨k_, e1, h⟩ := dI_elim h
      obtain ⟨n_, e2, h⟩ := dK_elim h
      obtain ⟨j_, e3, h⟩ := dI_elim h
      obtain ⟨t26_, e4, h⟩ := dB_elim h
      exact (diskm_Disk_After.B1_sound hN1 d_ k_ n_ j_ t26_ w h).weaken (Sub.cons (Sub.cons (Sub.cons (Sub.cons (Sub.cons (Sub.nil _) e4) e3) e2) e1) e0)) stops_nil) (Eq.mp (diskm_Disk_After.L1b_eq d k n j w  N1 R (fun d_ k_ n_ j_ t26_ w => diskm_Disk_After.B1 d_ k_ n_ j_ t26_ w N1 R)) h)
def diskm_Disk_After.L1 (d : Option Addr) (k : Int) (n : Nat) (j : Int) (w : World)  (R : Option Addr → World → Prop) : Prop :=
  ∃ (I : Nat → Option Addr → Int → Nat → Int → World → Prop) (m : Nat), I m d k n j w ∧ ∀ m d k n j w, I m d k n j w → diskm_Disk_After.L1b d k n j w  (fun d' k' n' j' w' => ∃ m', m' < m ∧ I m' d' k' n' j' w') R
theorem diskm_Disk_After.L1_sound {R : Option Addr → World → Prop}  (d : Option Addr) (k : Int) (n : Nat) (j : Int) (w : World) (h : diskm_Disk_After.L1 d k n j w  R) :
    KW Tryz.prog 56 86 (diskm_Disk_After.RV R) ([(0, [1, 1, 0, 1, 0, 0]), (2, [1, 1, 0, 1, 0, 0]), (1, [0]), (0, [1, 1, 1])].map (toItem (Tryz.f56.body.getD .skip))) [(0, .pointer d), (1, .int .i64 k), (5, .pointer (some ⟨n, 0, none⟩)), (6, .int .i64 j)] w := by
  obtain ⟨I, m, hBase, hr⟩ := h
  refine KW.loop (fun m σ w => ∃ (d : Option Addr) (k : Int) (n : Nat) (j : Int), σ = [(0, .pointer d), (1, .int .i64 k), (5, .pointer (some ⟨n, 0, none⟩)), (6, .int .i64 j)] ∧ I m d k n j w) ?_ m _ w ⟨d, k, n, j, rfl, hBase⟩
  rintro m ih σ w ⟨d, k, n, j, rfl, hI⟩
  exact diskm_Disk_After.L1b_sound  (N1 := fun d' k' n' j' w' => ∃ m', m' < m ∧ I m' d' k' n' j' w') (fun d' k' n' j' w' hx => by obtain ⟨m', hlt, hI'⟩ := hx; exact ih m' hlt _ w' ⟨d', k', n', j', rfl, hI'⟩) d k n j w (hr m d k n j w hI)
def diskm_Disk_After.B0 (d : Option Addr) (k : Int) (w : World)   (R : Option Addr → World → Prop) : Prop :=
  Pn d fun a =>
  LdL (a.add 1) w fun x11_b x11_l x11_c =>
  diskm_blocks.Call x11_b x11_l x11_c w fun r12_b r12_l r12_c w1 =>
  New (.cells #[.slice r12_b r12_l r12_c, .slice none 0 0, .slice none 0 0] 120) w1 fun b14 w2 =>
  diskm_Disk_After.L1 d k b14 (0 : Int) w2  R
theorem diskm_Disk_After.B0_eq (d : Option Addr) (k : Int) (w : World)   (R : Option Addr → World → Prop) (sL1 : Option Addr → Int → Nat → Int → World → Prop) :
    (
  Pn d fun a =>
  LdL (a.add 1) w fun x11_b x11_l x11_c =>
  diskm_blocks.Call x11_b x11_l x11_c w fun r12_b r12_l r12_c w1 =>
  New (.cells #[.slice r12_b r12_l r12_c, .slice none 0 0, .slice none 0 0] 120) w1 fun b14 w2 =>
  sL1 d k b14 (0 : Int) w2) = kstep Tryz.prog 86 Tryz.f56.results.toList (Tryz.f56.body.getD .skip) (diskm_Disk_After.RV R) (kvc Tryz.prog 86 Tryz.f56.results.toList (Tryz.f56.body.getD .skip) (diskm_Disk_After.RV R) [([(0, [1, 1, 0, 1, 0, 0]), (2, [1, 1, 0, 1, 0, 0]), (1, [0]), (0, [1, 1, 1])], fun σ w => dP (slotOf σ 0) fun d_ => dI .i64 (slotOf σ 1) fun k_ => dK (slotOf σ 5) fun n_ => dI .i64 (slotOf σ 6) fun j_ => sL1 d_ k_ n_ j_ w)] 2000) [(0, [])] [(0, .pointer d), (1, .int .i64 k)] w := by kernel_rfl
theorem diskm_Disk_After.B0_sound {R : Option Addr → World → Prop}  (d : Option Addr) (k : Int) (w : World) (h : diskm_Disk_After.B0 d k w   R) :
    KW Tryz.prog 56 86 (diskm_Disk_After.RV R) ([(0, [])].map (toItem (Tryz.f56.body.getD .skip))) [(0, .pointer d), (1, .int .i64 k)] w := by
  exact block_spec Tryz.func56 Tryz.mixed (stops_cons (fun σ w h => by
      obtain ⟨d_, e0, h⟩ := dP_elim h
      obtain ⟨k_, e1, h⟩ := dI_elim h
      obtain ⟨n_, e2, h⟩ := dK_elim h
      obtain ⟨j_, e3, h⟩ := dI_elim h
      exact (diskm_Disk_After.L1_sound  d_ k_ n_ j_ w h).weaken (Sub.cons (Sub.cons (Sub.cons (Sub.cons (Sub.nil _) e3) e2) e1) e0)) stops_nil) (Eq.mp (diskm_Disk_After.B0_eq d k w   R (fun d_ k_ n_ j_ w => diskm_Disk_After.L1 d_ k_ n_ j_ w  R)) h)
theorem diskm_Disk_After.sound (d : Option Addr) (k : Int) (w : World) (R : Option Addr → World → Prop) (h : diskm_Disk_After.B0 d k w R) : diskm_Disk_After.Call d k w R := by
  have hc := calls_of_block (args := #[.pointer d, .int .i64 k]) Tryz.func56 (body := (Tryz.f56.body.getD .skip)) (by kernel_rfl) (by kernel_rfl) (args_slot _) (diskm_Disk_After.B0_sound d k w h)
  exact hc.mono fun e w' he => by
    obtain ⟨v, rfl, hv⟩ := he
    exact diskm_Disk_After.RV_elim hv
def sync_Sync_View.L1b (s : Option Addr) (v : Nat) (p : Int) (w : World)  (N1 : Option Addr → Nat → Int → World → Prop) (R : Option Addr → World → Prop) : Prop :=
  Bm (decide (p < (3 : Int))) (
    Pn s fun a =>
    LdP (a.add 1) w.drew fun x64 =>
    elect_Elect_Got.Call x64 p w.drew fun r66 w1 =>
    (0 ≤ p ∧ p < ((3 : Nat) : Int)) ∧
    Sts [.bool r66] (Addr.add ⟨v, 6, none⟩ (p.toNat * 1)) 0 w1 fun w2 =>
    N1 s v (IntKind.i64.wrap (p + (1 : Int))) w2) (
    Pn s fun a_1 =>
    LdI .i64 (a_1.add 2) w fun x74 =>
    Sts [.int .i64 x74] ⟨v, 9, none⟩ 0 w fun w3 =>
    Pn s fun a_2 =>
    LdP a_2 w3 fun x81 =>
    rlog_Log_Base.Call x81 w3 fun r82 w4 =>
    Sts [.int .i64 r82] ⟨v, 10, none⟩ 0 w4 fun w5 =>
    Pn s fun a_3 =>
    LdP a_3 w5 fun x89 =>
    rlog_Log_BaseTerm.Call x89 w5 fun r90 w6 =>
    Sts [.int .i64 r90] ⟨v, 11, none⟩ 0 w6 fun w7 =>
    Pn s fun a_4 =>
    LdI .i64 (a_4.add 9) w7 fun x97 =>
    Sts [.int .i64 x97] ⟨v, 12, none⟩ 0 w7 fun w8 =>
    Pn s fun a_5 =>
    LdP a_5 w8 fun x104 =>
    rlog_Log_Snap.Call x104 w8 fun r105 w9 =>
    Sts [.string r105] ⟨v, 13, none⟩ 0 w9 fun w10 =>
    Pn s fun a_6 =>
    LdI .i64 (a_6.add 3) w10 fun x112_0 =>
    LdI .i64 ((a_6.add 3).add 1) w10 fun x112_1 =>
    LdI .i64 ((a_6.add 3).add 2) w10 fun x112_2 =>
    Sts [.int .i64 x112_0, .int .i64 x112_1, .int .i64 x112_2] ⟨v, 14, none⟩ 0 w10 fun w11 =>
    Pn s fun a_7 =>
    LdI .i64 (a_7.add 6) w11 fun x119_0 =>
    LdI .i64 ((a_7.add 6).add 1) w11 fun x119_1 =>
    LdI .i64 ((a_7.add 6).add 2) w11 fun x119_2 =>
    Sts [.int .i64 x119_0, .int .i64 x119_1, .int .i64 x119_2] ⟨v, 17, none⟩ 0 w11 fun w12 =>
    R (some ⟨v, 0, none⟩) w12)
theorem sync_Sync_View.L1b_eq (s : Option Addr) (v : Nat) (p : Int) (w : World)  (N1 : Option Addr → Nat → Int → World → Prop) (R : Option Addr → World → Prop)  :
    (
  Bm (decide (p < (3 : Int))) (
    Pn s fun a =>
    LdP (a.add 1) w.drew fun x64 =>
    elect_Elect_Got.Call x64 p w.drew fun r66 w1 =>
    (0 ≤ p ∧ p < ((3 : Nat) : Int)) ∧
    Sts [.bool r66] (Addr.add ⟨v, 6, none⟩ (p.toNat * 1)) 0 w1 fun w2 =>
    N1 s v (IntKind.i64.wrap (p + (1 : Int))) w2) (
    Pn s fun a_1 =>
    LdI .i64 (a_1.add 2) w fun x74 =>
    Sts [.int .i64 x74] ⟨v, 9, none⟩ 0 w fun w3 =>
    Pn s fun a_2 =>
    LdP a_2 w3 fun x81 =>
    rlog_Log_Base.Call x81 w3 fun r82 w4 =>
    Sts [.int .i64 r82] ⟨v, 10, none⟩ 0 w4 fun w5 =>
    Pn s fun a_3 =>
    LdP a_3 w5 fun x89 =>
    rlog_Log_BaseTerm.Call x89 w5 fun r90 w6 =>
    Sts [.int .i64 r90] ⟨v, 11, none⟩ 0 w6 fun w7 =>
    Pn s fun a_4 =>
    LdI .i64 (a_4.add 9) w7 fun x97 =>
    Sts [.int .i64 x97] ⟨v, 12, none⟩ 0 w7 fun w8 =>
    Pn s fun a_5 =>
    LdP a_5 w8 fun x104 =>
    rlog_Log_Snap.Call x104 w8 fun r105 w9 =>
    Sts [.string r105] ⟨v, 13, none⟩ 0 w9 fun w10 =>
    Pn s fun a_6 =>
    LdI .i64 (a_6.add 3) w10 fun x112_0 =>
    LdI .i64 ((a_6.add 3).add 1) w10 fun x112_1 =>
    LdI .i64 ((a_6.add 3).add 2) w10 fun x112_2 =>
    Sts [.int .i64 x112_0, .int .i64 x112_1, .int .i64 x112_2] ⟨v, 14, none⟩ 0 w10 fun w11 =>
    Pn s fun a_7 =>
    LdI .i64 (a_7.add 6) w11 fun x119_0 =>
    LdI .i64 ((a_7.add 6).add 1) w11 fun x119_1 =>
    LdI .i64 ((a_7.add 6).add 2) w11 fun x119_2 =>
    Sts [.int .i64 x119_0, .int .i64 x119_1, .int .i64 x119_2] ⟨v, 17, none⟩ 0 w11 fun w12 =>
    R (some ⟨v, 0, none⟩) w12)) = kstep Tryz.prog 123 Tryz.f57.results.toList (Tryz.f57.body.getD .skip) (sync_Sync_View.RV R) (kvc Tryz.prog 123 Tryz.f57.results.toList (Tryz.f57.body.getD .skip) (sync_Sync_View.RV R) [([(0, [1, 1, 1, 1, 1, 1, 1, 1, 0, 1, 0, 0]), (2, [1, 1, 1, 1, 1, 1, 1, 1, 0, 1, 0, 0]), (1, [0]), (0, [1, 1, 1, 1, 1, 1, 1, 1, 1])], fun σ w => dP (slotOf σ 0) fun s_ => dK (slotOf σ 3) fun v_ => dI .i64 (slotOf σ 4) fun p_ => N1 s_ v_ p_ w)] 2000) [(0, [1, 1, 1, 1, 1, 1, 1, 1, 0, 1, 0, 0]), (2, [1, 1, 1, 1, 1, 1, 1, 1, 0, 1, 0, 0]), (1, [0]), (0, [1, 1, 1, 1, 1, 1, 1, 1, 1])] [(0, .pointer s), (3, .pointer (some ⟨v, 0, none⟩)), (4, .int .i64 p)] w := by kernel_rfl
theorem sync_Sync_View.L1b_sound {R : Option Addr → World → Prop} {N1 : Option Addr → Nat → Int → World → Prop} (hN1 : ∀ s v p w, N1 s v p w → KW Tryz.prog 57 123 (sync_Sync_View.RV R) ([(0, [1, 1, 1, 1, 1, 1, 1, 1, 0, 1, 0, 0]), (2, [1, 1, 1, 1, 1, 1, 1, 1, 0, 1, 0, 0]), (1, [0]), (0, [1, 1, 1, 1, 1, 1, 1, 1, 1])].map (toItem (Tryz.f57.body.getD .skip))) [(0, .pointer s), (3, .pointer (some ⟨v, 0, none⟩)), (4, .int .i64 p)] w) (s : Option Addr) (v : Nat) (p : Int) (w : World) (h : sync_Sync_View.L1b s v p w  N1 R) :
    KW Tryz.prog 57 123 (sync_Sync_View.RV R) ([(0, [1, 1, 1, 1, 1, 1, 1, 1, 0, 1, 0, 0]), (2, [1, 1, 1, 1, 1, 1, 1, 1, 0, 1, 0, 0]), (1, [0]), (0, [1, 1, 1, 1, 1, 1, 1, 1, 1])].map (toItem (Tryz.f57.body.getD .skip))) [(0, .pointer s), (3, .pointer (some ⟨v, 0, none⟩)), (4, .int .i64 p)] w := by
  exact block_spec Tryz.func57 Tryz.mixed (stops_cons (fun σ w h => by
      obtain ⟨s_, e0, h⟩ := dP_elim h
      obtain ⟨v_, e1, h⟩ := dK_elim h
      obtain ⟨p_, e2, h⟩ := dI_elim h
      exact (hN1 s_ v_ p_ w h).weaken (Sub.cons (Sub.cons (Sub.cons (Sub.nil _) e2) e1) e0)) stops_nil) (Eq.mp (sync_Sync_View.L1b_eq s v p w  N1 R ) h)
def sync_Sync_View.L1 (s : Option Addr) (v : Nat) (p : Int) (w : World)  (R : Option Addr → World → Prop) : Prop :=
  ∃ (I : Nat → Option Addr → Nat → Int → World → Prop) (m : Nat), I m s v p w ∧ ∀ m s v p w, I m s v p w → sync_Sync_View.L1b s v p w  (fun s' v' p' w' => ∃ m', m' < m ∧ I m' s' v' p' w') R
theorem sync_Sync_View.L1_sound {R : Option Addr → World → Prop}  (s : Option Addr) (v : Nat) (p : Int) (w : World) (h : sync_Sync_View.L1 s v p w  R) :
    KW Tryz.prog 57 123 (sync_Sync_View.RV R) ([(0, [1, 1, 1, 1, 1, 1, 1, 1, 0, 1, 0, 0]), (2, [1, 1, 1, 1, 1, 1, 1, 1, 0, 1, 0, 0]), (1, [0]), (0, [1, 1, 1, 1, 1, 1, 1, 1, 1])].map (toItem (Tryz.f57.body.getD .skip))) [(0, .pointer s), (3, .pointer (some ⟨v, 0, none⟩)), (4, .int .i64 p)] w := by
  obtain ⟨I, m, hBase, hr⟩ := h
  refine KW.loop (fun m σ w => ∃ (s : Option Addr) (v : Nat) (p : Int), σ = [(0, .pointer s), (3, .pointer (some ⟨v, 0, none⟩)), (4, .int .i64 p)] ∧ I m s v p w) ?_ m _ w ⟨s, v, p, rfl, hBase⟩
  rintro m ih σ w ⟨s, v, p, rfl, hI⟩
  exact sync_Sync_View.L1b_sound  (N1 := fun s' v' p' w' => ∃ m', m' < m ∧ I m' s' v' p' w') (fun s' v' p' w' hx => by obtain ⟨m', hlt, hI'⟩ := hx; exact ih m' hlt _ w' ⟨s', v', p', rfl, hI'⟩) s v p w (hr m s v p w hI)
def sync_Sync_View.B0 (s : Option Addr) (w : World)   (R : Option Addr → World → Prop) : Prop :=
  New (.cells #[.int .i64 (0 : Int), .int .i64 (0 : Int), .int .i64 (0 : Int), .int .i64 (0 : Int), .int .i64 (0 : Int), .int .i64 (0 : Int), .bool false, .bool false, .bool false, .int .i64 (0 : Int), .int .i64 (0 : Int), .int .i64 (0 : Int), .int .i64 (0 : Int), .string (ByteArray.mk #[]), .int .i64 (0 : Int), .int .i64 (0 : Int), .int .i64 (0 : Int), .int .i64 (0 : Int), .int .i64 (0 : Int), .int .i64 (0 : Int)] 108) w fun b6 w1 =>
  Pn s fun a =>
  LdP (a.add 1) w1 fun x11 =>
  elect_Elect_Id.Call x11 w1 fun r12 w2 =>
  Sts [.int .i64 r12] ⟨b6, 0, none⟩ 0 w2 fun w3 =>
  Pn s fun a_1 =>
  LdP (a_1.add 1) w3 fun x19 =>
  elect_Elect_Term.Call x19 w3 fun r20 w4 =>
  Sts [.int .i64 r20] ⟨b6, 1, none⟩ 0 w4 fun w5 =>
  Pn s fun a_2 =>
  LdP (a_2.add 1) w5 fun x27 =>
  elect_Elect_Vote.Call x27 w5 fun r28 w6 =>
  Sts [.int .i64 r28] ⟨b6, 2, none⟩ 0 w6 fun w7 =>
  Pn s fun a_3 =>
  LdP (a_3.add 1) w7 fun x35 =>
  elect_Elect_Role.Call x35 w7 fun r36 w8 =>
  Sts [.int .i64 r36] ⟨b6, 3, none⟩ 0 w8 fun w9 =>
  Pn s fun a_4 =>
  LdP (a_4.add 1) w9 fun x43 =>
  elect_Elect_Leader.Call x43 w9 fun r44 w10 =>
  Sts [.int .i64 r44] ⟨b6, 4, none⟩ 0 w10 fun w11 =>
  Pn s fun a_5 =>
  LdP (a_5.add 1) w11 fun x51 =>
  elect_Elect_Clock.Call x51 w11 fun r52 w12 =>
  Sts [.int .i64 r52] ⟨b6, 5, none⟩ 0 w12 fun w13 =>
  sync_Sync_View.L1 s b6 (0 : Int) w13  R
theorem sync_Sync_View.B0_eq (s : Option Addr) (w : World)   (R : Option Addr → World → Prop) (sL1 : Option Addr → Nat → Int → World → Prop) :
    (
  New (.cells #[.int .i64 (0 : Int), .int .i64 (0 : Int), .int .i64 (0 : Int), .int .i64 (0 : Int), .int .i64 (0 : Int), .int .i64 (0 : Int), .bool false, .bool false, .bool false, .int .i64 (0 : Int), .int .i64 (0 : Int), .int .i64 (0 : Int), .int .i64 (0 : Int), .string (ByteArray.mk #[]), .int .i64 (0 : Int), .int .i64 (0 : Int), .int .i64 (0 : Int), .int .i64 (0 : Int), .int .i64 (0 : Int), .int .i64 (0 : Int)] 108) w fun b6 w1 =>
  Pn s fun a =>
  LdP (a.add 1) w1 fun x11 =>
  elect_Elect_Id.Call x11 w1 fun r12 w2 =>
  Sts [.int .i64 r12] ⟨b6, 0, none⟩ 0 w2 fun w3 =>
  Pn s fun a_1 =>
  LdP (a_1.add 1) w3 fun x19 =>
  elect_Elect_Term.Call x19 w3 fun r20 w4 =>
  Sts [.int .i64 r20] ⟨b6, 1, none⟩ 0 w4 fun w5 =>
  Pn s fun a_2 =>
  LdP (a_2.add 1) w5 fun x27 =>
  elect_Elect_Vote.Call x27 w5 fun r28 w6 =>
  Sts [.int .i64 r28] ⟨b6, 2, none⟩ 0 w6 fun w7 =>
  Pn s fun a_3 =>
  LdP (a_3.add 1) w7 fun x35 =>
  elect_Elect_Role.Call x35 w7 fun r36 w8 =>
  Sts [.int .i64 r36] ⟨b6, 3, none⟩ 0 w8 fun w9 =>
  Pn s fun a_4 =>
  LdP (a_4.add 1) w9 fun x43 =>
  elect_Elect_Leader.Call x43 w9 fun r44 w10 =>
  Sts [.int .i64 r44] ⟨b6, 4, none⟩ 0 w10 fun w11 =>
  Pn s fun a_5 =>
  LdP (a_5.add 1) w11 fun x51 =>
  elect_Elect_Clock.Call x51 w11 fun r52 w12 =>
  Sts [.int .i64 r52] ⟨b6, 5, none⟩ 0 w12 fun w13 =>
  sL1 s b6 (0 : Int) w13) = kstep Tryz.prog 123 Tryz.f57.results.toList (Tryz.f57.body.getD .skip) (sync_Sync_View.RV R) (kvc Tryz.prog 123 Tryz.f57.results.toList (Tryz.f57.body.getD .skip) (sync_Sync_View.RV R) [([(0, [1, 1, 1, 1, 1, 1, 1, 1, 0, 1, 0, 0]), (2, [1, 1, 1, 1, 1, 1, 1, 1, 0, 1, 0, 0]), (1, [0]), (0, [1, 1, 1, 1, 1, 1, 1, 1, 1])], fun σ w => dP (slotOf σ 0) fun s_ => dK (slotOf σ 3) fun v_ => dI .i64 (slotOf σ 4) fun p_ => sL1 s_ v_ p_ w)] 2000) [(0, [])] [(0, .pointer s)] w := by kernel_rfl
theorem sync_Sync_View.B0_sound {R : Option Addr → World → Prop}  (s : Option Addr) (w : World) (h : sync_Sync_View.B0 s w   R) :
    KW Tryz.prog 57 123 (sync_Sync_View.RV R) ([(0, [])].map (toItem (Tryz.f57.body.getD .skip))) [(0, .pointer s)] w := by
  exact block_spec Tryz.func57 Tryz.mixed (stops_cons (fun σ w h => by
      obtain ⟨s_, e0, h⟩ := dP_elim h
      obtain ⟨v_, e1, h⟩ := dK_elim h
      obtain ⟨p_, e2, h⟩ := dI_elim h
      exact (sync_Sync_View.L1_sound  s_ v_ p_ w h).weaken (Sub.cons (Sub.cons (Sub.cons (Sub.nil _) e2) e1) e0)) stops_nil) (Eq.mp (sync_Sync_View.B0_eq s w   R (fun s_ v_ p_ w => sync_Sync_View.L1 s_ v_ p_ w  R)) h)
theorem sync_Sync_View.sound (s : Option Addr) (w : World) (R : Option Addr → World → Prop) (h : sync_Sync_View.B0 s w R) : sync_Sync_View.Call s w R := by
  have hc := calls_of_block (args := #[.pointer s]) Tryz.func57 (body := (Tryz.f57.body.getD .skip)) (by kernel_rfl) (by kernel_rfl) (args_slot _) (sync_Sync_View.B0_sound s w h)
  exact hc.mono fun e w' he => by
    obtain ⟨v, rfl, hv⟩ := he
    exact sync_Sync_View.RV_elim hv
def node_Node_catchUp.B0 (n : Option Addr) (w : World)   (R : World → Prop) : Prop :=
  Pn n fun a =>
  LdP a w fun x6 =>
  sync_Sync_View.Call x6 w fun r7 w1 =>
  Pn r7 fun a_1 =>
  LdI .i64 (a_1.add 10) w1.drew fun x11 =>
  Pn n fun a_2 =>
  LdI .i64 (a_2.add 3) w1.drew fun x15 =>
  Bm (decide (x11 > x15)) (
    Pn n fun a_3 =>
    LdP (a_3.add 1) w1.drew.drew fun x20 =>
    Pn r7 fun a_4 =>
    LdS (a_4.add 13) w1.drew.drew fun x24 =>
    kv_KV_Restore.Call x20 x24 w1.drew.drew fun r25 w2 =>
    Pn r7 fun a_5 =>
    LdI .i64 (a_5.add 10) w2 fun x30 =>
    Pn n fun a_6 =>
    Sts [.int .i64 x30] (a_6.add 3) 0 w2 fun w3 =>
    R  w3) (
    R  w1.drew)
theorem node_Node_catchUp.B0_eq (n : Option Addr) (w : World)   (R : World → Prop)  :
    (
  Pn n fun a =>
  LdP a w fun x6 =>
  sync_Sync_View.Call x6 w fun r7 w1 =>
  Pn r7 fun a_1 =>
  LdI .i64 (a_1.add 10) w1.drew fun x11 =>
  Pn n fun a_2 =>
  LdI .i64 (a_2.add 3) w1.drew fun x15 =>
  Bm (decide (x11 > x15)) (
    Pn n fun a_3 =>
    LdP (a_3.add 1) w1.drew.drew fun x20 =>
    Pn r7 fun a_4 =>
    LdS (a_4.add 13) w1.drew.drew fun x24 =>
    kv_KV_Restore.Call x20 x24 w1.drew.drew fun r25 w2 =>
    Pn r7 fun a_5 =>
    LdI .i64 (a_5.add 10) w2 fun x30 =>
    Pn n fun a_6 =>
    Sts [.int .i64 x30] (a_6.add 3) 0 w2 fun w3 =>
    R  w3) (
    R  w1.drew)) = kstep Tryz.prog 33 Tryz.f58.results.toList (Tryz.f58.body.getD .skip) (node_Node_catchUp.RV R) (kvc Tryz.prog 33 Tryz.f58.results.toList (Tryz.f58.body.getD .skip) (node_Node_catchUp.RV R) [] 2000) [(0, [])] [(0, .pointer n)] w := by kernel_rfl
theorem node_Node_catchUp.B0_sound {R : World → Prop}  (n : Option Addr) (w : World) (h : node_Node_catchUp.B0 n w   R) :
    KW Tryz.prog 58 33 (node_Node_catchUp.RV R) ([(0, [])].map (toItem (Tryz.f58.body.getD .skip))) [(0, .pointer n)] w := by
  exact block_spec Tryz.func58 Tryz.mixed stops_nil (Eq.mp (node_Node_catchUp.B0_eq n w   R ) h)
theorem node_Node_catchUp.sound (n : Option Addr) (w : World) (R : World → Prop) (h : node_Node_catchUp.B0 n w R) : node_Node_catchUp.Call n w R := by
  have hc := calls_of_block (args := #[.pointer n]) Tryz.func58 (body := (Tryz.f58.body.getD .skip)) (by kernel_rfl) (by kernel_rfl) (args_slot _) (node_Node_catchUp.B0_sound n w h)
  exact hc.mono fun e w' he => by
    obtain ⟨v, rfl, hv⟩ := he
    exact node_Node_catchUp.RV_elim hv
def syncm_Sync_Steps.B0 (s : Option Addr) (w : World)   (R : Int → World → Prop) : Prop :=
  Pn s fun a =>
  LdP a w fun x6 =>
  rlogm_Log_Steps.Call x6 w fun r7 w1 =>
  R r7 w1
theorem syncm_Sync_Steps.B0_eq (s : Option Addr) (w : World)   (R : Int → World → Prop)  :
    (
  Pn s fun a =>
  LdP a w fun x6 =>
  rlogm_Log_Steps.Call x6 w fun r7 w1 =>
  R r7 w1) = kstep Tryz.prog 8 Tryz.f59.results.toList (Tryz.f59.body.getD .skip) (syncm_Sync_Steps.RV R) (kvc Tryz.prog 8 Tryz.f59.results.toList (Tryz.f59.body.getD .skip) (syncm_Sync_Steps.RV R) [] 2000) [(0, [])] [(0, .pointer s)] w := by kernel_rfl
theorem syncm_Sync_Steps.B0_sound {R : Int → World → Prop}  (s : Option Addr) (w : World) (h : syncm_Sync_Steps.B0 s w   R) :
    KW Tryz.prog 59 8 (syncm_Sync_Steps.RV R) ([(0, [])].map (toItem (Tryz.f59.body.getD .skip))) [(0, .pointer s)] w := by
  exact block_spec Tryz.func59 Tryz.mixed stops_nil (Eq.mp (syncm_Sync_Steps.B0_eq s w   R ) h)
theorem syncm_Sync_Steps.sound (s : Option Addr) (w : World) (R : Int → World → Prop) (h : syncm_Sync_Steps.B0 s w R) : syncm_Sync_Steps.Call s w R := by
  have hc := calls_of_block (args := #[.pointer s]) Tryz.func59 (body := (Tryz.f59.body.getD .skip)) (by kernel_rfl) (by kernel_rfl) (args_slot _) (syncm_Sync_Steps.B0_sound s w h)
  exact hc.mono fun e w' he => by
    obtain ⟨v, rfl, hv⟩ := he
    exact syncm_Sync_Steps.RV_elim hv
def syncm_Sync_After.B0 (s : Option Addr) (k : Int) (w : World)   (R : Option Addr → World → Prop) : Prop :=
  Pn s fun a =>
  LdP a w fun x11 =>
  rlogm_Log_After.Call x11 k w fun r13 w1 =>
  Pn s fun a_1 =>
  LdP (a_1.add 1) w1 fun x17 =>
  electm_Elect_Id.Call x17 w1 fun r18 w2 =>
  electm_New.Call r18 w2 fun r20 w3 =>
  syncm_open.Call r13 r20 w3 fun r23 w4 =>
  R r23 w4
theorem syncm_Sync_After.B0_eq (s : Option Addr) (k : Int) (w : World)   (R : Option Addr → World → Prop)  :
    (
  Pn s fun a =>
  LdP a w fun x11 =>
  rlogm_Log_After.Call x11 k w fun r13 w1 =>
  Pn s fun a_1 =>
  LdP (a_1.add 1) w1 fun x17 =>
  electm_Elect_Id.Call x17 w1 fun r18 w2 =>
  electm_New.Call r18 w2 fun r20 w3 =>
  syncm_open.Call r13 r20 w3 fun r23 w4 =>
  R r23 w4) = kstep Tryz.prog 24 Tryz.f60.results.toList (Tryz.f60.body.getD .skip) (syncm_Sync_After.RV R) (kvc Tryz.prog 24 Tryz.f60.results.toList (Tryz.f60.body.getD .skip) (syncm_Sync_After.RV R) [] 2000) [(0, [])] [(0, .pointer s), (1, .int .i64 k)] w := by kernel_rfl
theorem syncm_Sync_After.B0_sound {R : Option Addr → World → Prop}  (s : Option Addr) (k : Int) (w : World) (h : syncm_Sync_After.B0 s k w   R) :
    KW Tryz.prog 60 24 (syncm_Sync_After.RV R) ([(0, [])].map (toItem (Tryz.f60.body.getD .skip))) [(0, .pointer s), (1, .int .i64 k)] w := by
  exact block_spec Tryz.func60 Tryz.mixed stops_nil (Eq.mp (syncm_Sync_After.B0_eq s k w   R ) h)
theorem syncm_Sync_After.sound (s : Option Addr) (k : Int) (w : World) (R : Option Addr → World → Prop) (h : syncm_Sync_After.B0 s k w R) : syncm_Sync_After.Call s k w R := by
  have hc := calls_of_block (args := #[.pointer s, .int .i64 k]) Tryz.func60 (body := (Tryz.f60.body.getD .skip)) (by kernel_rfl) (by kernel_rfl) (args_slot _) (syncm_Sync_After.B0_sound s k w h)
  exact hc.mono fun e w' he => by
    obtain ⟨v, rfl, hv⟩ := he
    exact syncm_Sync_After.RV_elim hv
def nodelaw_AlikeLog.L1b (x m0 v : Option Addr) (i : Int) (w : World)  (N1 : Option Addr → Option Addr → Option Addr → Int → World → Prop) (R : Bool → World → Prop) : Prop :=
  Pn v fun a =>
  LdP a w fun x25 =>
  Pn x25 fun a_1 =>
  LdI .i64 (a_1.add 12) w fun x28 =>
  Bm (decide (i ≤ (IntKind.i64.wrap (x28 + (1 : Int))))) (
    nodelaw_SameAt.Call x m0 i w fun r36 w1 =>
    Bm (!r36) (
      R false w1) (
      nodelaw_SameTermAt.Call x m0 i w1 fun r41 w2 =>
      Bm (!r41) (
        R false w2) (
        N1 x m0 v (IntKind.i64.wrap (i + (1 : Int))) w2))) (
    R true w)
theorem nodelaw_AlikeLog.L1b_eq (x m0 v : Option Addr) (i : Int) (w : World)  (N1 : Option Addr → Option Addr → Option Addr → Int → World → Prop) (R : Bool → World → Prop)  :
    (
  Pn v fun a =>
  LdP a w fun x25 =>
  Pn x25 fun a_1 =>
  LdI .i64 (a_1.add 12) w fun x28 =>
  Bm (decide (i ≤ (IntKind.i64.wrap (x28 + (1 : Int))))) (
    nodelaw_SameAt.Call x m0 i w fun r36 w1 =>
    Bm (!r36) (
      R false w1) (
      nodelaw_SameTermAt.Call x m0 i w1 fun r41 w2 =>
      Bm (!r41) (
        R false w2) (
        N1 x m0 v (IntKind.i64.wrap (i + (1 : Int))) w2))) (
    R true w)) = kstep Tryz.prog 43 Tryz.f61.results.toList (Tryz.f61.body.getD .skip) (nodelaw_AlikeLog.RV R) (kvc Tryz.prog 43 Tryz.f61.results.toList (Tryz.f61.body.getD .skip) (nodelaw_AlikeLog.RV R) [([(0, [1, 1, 1, 0, 1, 0, 0]), (2, [1, 1, 1, 0, 1, 0, 0]), (1, [0]), (0, [1, 1, 1, 1])], fun σ w => dP (slotOf σ 0) fun x_ => dP (slotOf σ 1) fun m0_ => dP (slotOf σ 5) fun v_ => dI .i64 (slotOf σ 6) fun i_ => N1 x_ m0_ v_ i_ w)] 2000) [(0, [1, 1, 1, 0, 1, 0, 0]), (2, [1, 1, 1, 0, 1, 0, 0]), (1, [0]), (0, [1, 1, 1, 1])] [(0, .pointer x), (1, .pointer m0), (5, .pointer v), (6, .int .i64 i)] w := by kernel_rfl
theorem nodelaw_AlikeLog.L1b_sound {R : Bool → World → Prop} {N1 : Option Addr → Option Addr → Option Addr → Int → World → Prop} (hN1 : ∀ x m0 v i w, N1 x m0 v i w → KW Tryz.prog 61 43 (nodelaw_AlikeLog.RV R) ([(0, [1, 1, 1, 0, 1, 0, 0]), (2, [1, 1, 1, 0, 1, 0, 0]), (1, [0]), (0, [1, 1, 1, 1])].map (toItem (Tryz.f61.body.getD .skip))) [(0, .pointer x), (1, .pointer m0), (5, .pointer v), (6, .int .i64 i)] w) (x m0 v : Option Addr) (i : Int) (w : World) (h : nodelaw_AlikeLog.L1b x m0 v i w  N1 R) :
    KW Tryz.prog 61 43 (nodelaw_AlikeLog.RV R) ([(0, [1, 1, 1, 0, 1, 0, 0]), (2, [1, 1, 1, 0, 1, 0, 0]), (1, [0]), (0, [1, 1, 1, 1])].map (toItem (Tryz.f61.body.getD .skip))) [(0, .pointer x), (1, .pointer m0), (5, .pointer v), (6, .int .i64 i)] w := by
  exact block_spec Tryz.func61 Tryz.mixed (stops_cons (fun σ w h => by
      obtain ⟨x_, e0, h⟩ := dP_elim h
      obtain ⟨m0_, e1, h⟩ := dP_elim h
      obtain ⟨v_, e2, h⟩ := dP_elim h
      obtain ⟨i_, e3, h⟩ := dI_elim h
      exact (hN1 x_ m0_ v_ i_ w h).weaken (Sub.cons (Sub.cons (Sub.cons (Sub.cons (Sub.nil _) e3) e2) e1) e0)) stops_nil) (Eq.mp (nodelaw_AlikeLog.L1b_eq x m0 v i w  N1 R ) h)
def nodelaw_AlikeLog.L1 (x m0 v : Option Addr) (i : Int) (w : World)  (R : Bool → World → Prop) : Prop :=
  ∃ (I : Nat → Option Addr → Option Addr → Option Addr → Int → World → Prop) (m : Nat), I m x m0 v i w ∧ ∀ m x m0 v i w, I m x m0 v i w → nodelaw_AlikeLog.L1b x m0 v i w  (fun x' m0' v' i' w' => ∃ m', m' < m ∧ I m' x' m0' v' i' w') R
theorem nodelaw_AlikeLog.L1_sound {R : Bool → World → Prop}  (x m0 v : Option Addr) (i : Int) (w : World) (h : nodelaw_AlikeLog.L1 x m0 v i w  R) :
    KW Tryz.prog 61 43 (nodelaw_AlikeLog.RV R) ([(0, [1, 1, 1, 0, 1, 0, 0]), (2, [1, 1, 1, 0, 1, 0, 0]), (1, [0]), (0, [1, 1, 1, 1])].map (toItem (Tryz.f61.body.getD .skip))) [(0, .pointer x), (1, .pointer m0), (5, .pointer v), (6, .int .i64 i)] w := by
  obtain ⟨I, m, hBase, hr⟩ := h
  refine KW.loop (fun m σ w => ∃ (x m0 v : Option Addr) (i : Int), σ = [(0, .pointer x), (1, .pointer m0), (5, .pointer v), (6, .int .i64 i)] ∧ I m x m0 v i w) ?_ m _ w ⟨x, m0, v, i, rfl, hBase⟩
  rintro m ih σ w ⟨x, m0, v, i, rfl, hI⟩
  exact nodelaw_AlikeLog.L1b_sound  (N1 := fun x' m0' v' i' w' => ∃ m', m' < m ∧ I m' x' m0' v' i' w') (fun x' m0' v' i' w' hx => by obtain ⟨m', hlt, hI'⟩ := hx; exact ih m' hlt _ w' ⟨x', m0', v', i', rfl, hI'⟩) x m0 v i w (hr m x m0 v i w hI)
def nodelaw_AlikeLog.B0 (x m0 : Option Addr) (w : World)   (R : Bool → World → Prop) : Prop :=
  nodelaw_SameView.Call x m0 w fun r9 w1 =>
  Bm (!r9) (
    R false w1) (
    nodem_Node_View.Call m0 w1 fun r12 w2 =>
    Pn r12 fun a =>
    LdP a w2 fun x16 =>
    Pn x16 fun a_1 =>
    LdI .i64 (a_1.add 10) w2 fun x19 =>
    nodelaw_AlikeLog.L1 x m0 r12 (IntKind.i64.wrap (x19 - (1 : Int))) w2  R)
theorem nodelaw_AlikeLog.B0_eq (x m0 : Option Addr) (w : World)   (R : Bool → World → Prop) (sL1 : Option Addr → Option Addr → Option Addr → Int → World → Prop) :
    (
  nodelaw_SameView.Call x m0 w fun r9 w1 =>
  Bm (!r9) (
    R false w1) (
    nodem_Node_View.Call m0 w1 fun r12 w2 =>
    Pn r12 fun a =>
    LdP a w2 fun x16 =>
    Pn x16 fun a_1 =>
    LdI .i64 (a_1.add 10) w2 fun x19 =>
    sL1 x m0 r12 (IntKind.i64.wrap (x19 - (1 : Int))) w2)) = kstep Tryz.prog 43 Tryz.f61.results.toList (Tryz.f61.body.getD .skip) (nodelaw_AlikeLog.RV R) (kvc Tryz.prog 43 Tryz.f61.results.toList (Tryz.f61.body.getD .skip) (nodelaw_AlikeLog.RV R) [([(0, [1, 1, 1, 0, 1, 0, 0]), (2, [1, 1, 1, 0, 1, 0, 0]), (1, [0]), (0, [1, 1, 1, 1])], fun σ w => dP (slotOf σ 0) fun x_ => dP (slotOf σ 1) fun m0_ => dP (slotOf σ 5) fun v_ => dI .i64 (slotOf σ 6) fun i_ => sL1 x_ m0_ v_ i_ w)] 2000) [(0, [])] [(0, .pointer x), (1, .pointer m0)] w := by kernel_rfl
theorem nodelaw_AlikeLog.B0_sound {R : Bool → World → Prop}  (x m0 : Option Addr) (w : World) (h : nodelaw_AlikeLog.B0 x m0 w   R) :
    KW Tryz.prog 61 43 (nodelaw_AlikeLog.RV R) ([(0, [])].map (toItem (Tryz.f61.body.getD .skip))) [(0, .pointer x), (1, .pointer m0)] w := by
  exact block_spec Tryz.func61 Tryz.mixed (stops_cons (fun σ w h => by
      obtain ⟨x_, e0, h⟩ := dP_elim h
      obtain ⟨m0_, e1, h⟩ := dP_elim h
      obtain ⟨v_, e2, h⟩ := dP_elim h
      obtain ⟨i_, e3, h⟩ := dI_elim h
      exact (nodelaw_AlikeLog.L1_sound  x_ m0_ v_ i_ w h).weaken (Sub.cons (Sub.cons (Sub.cons (Sub.cons (Sub.nil _) e3) e2) e1) e0)) stops_nil) (Eq.mp (nodelaw_AlikeLog.B0_eq x m0 w   R (fun x_ m0_ v_ i_ w => nodelaw_AlikeLog.L1 x_ m0_ v_ i_ w  R)) h)
theorem nodelaw_AlikeLog.sound (x m0 : Option Addr) (w : World) (R : Bool → World → Prop) (h : nodelaw_AlikeLog.B0 x m0 w R) : nodelaw_AlikeLog.Call x m0 w R := by
  have hc := calls_of_block (args := #[.pointer x, .pointer m0]) Tryz.func61 (body := (Tryz.f61.body.getD .skip)) (by kernel_rfl) (by kernel_rfl) (args_slot _) (nodelaw_AlikeLog.B0_sound x m0 w h)
  exact hc.mono fun e w' he => by
    obtain ⟨v, rfl, hv⟩ := he
    exact nodelaw_AlikeLog.RV_elim hv
def nodelaw_AlikeKV.L2b (x m0 : Option Addr) (c : Int) (w : World)  (N2 : Option Addr → Option Addr → Int → World → Prop) (R : Bool → World → Prop) : Prop :=
  Bm (decide (c ≤ (3 : Int))) (
    nodelaw_SameSess.Call x m0 c w fun r47 w1 =>
    Bm (!r47) (
      R false w1) (
      N2 x m0 (IntKind.i64.wrap (c + (1 : Int))) w1)) (
    R true w)
theorem nodelaw_AlikeKV.L2b_eq (x m0 : Option Addr) (c : Int) (w : World)  (N2 : Option Addr → Option Addr → Int → World → Prop) (R : Bool → World → Prop)  :
    (
  Bm (decide (c ≤ (3 : Int))) (
    nodelaw_SameSess.Call x m0 c w fun r47 w1 =>
    Bm (!r47) (
      R false w1) (
      N2 x m0 (IntKind.i64.wrap (c + (1 : Int))) w1)) (
    R true w)) = kstep Tryz.prog 49 Tryz.f62.results.toList (Tryz.f62.body.getD .skip) (nodelaw_AlikeKV.RV R) (kvc Tryz.prog 49 Tryz.f62.results.toList (Tryz.f62.body.getD .skip) (nodelaw_AlikeKV.RV R) [([(0, [1, 1, 1, 1, 1, 0, 1, 0, 0]), (2, [1, 1, 1, 1, 1, 0, 1, 0, 0]), (1, [2]), (0, [1, 1, 1, 1, 1, 1])], fun σ w => dP (slotOf σ 0) fun x_ => dP (slotOf σ 1) fun m0_ => dI .i64 (slotOf σ 10) fun c_ => N2 x_ m0_ c_ w)] 2000) [(0, [1, 1, 1, 1, 1, 0, 1, 0, 0]), (2, [1, 1, 1, 1, 1, 0, 1, 0, 0]), (1, [2]), (0, [1, 1, 1, 1, 1, 1])] [(0, .pointer x), (1, .pointer m0), (10, .int .i64 c)] w := by kernel_rfl
theorem nodelaw_AlikeKV.L2b_sound {R : Bool → World → Prop} {N2 : Option Addr → Option Addr → Int → World → Prop} (hN2 : ∀ x m0 c w, N2 x m0 c w → KW Tryz.prog 62 49 (nodelaw_AlikeKV.RV R) ([(0, [1, 1, 1, 1, 1, 0, 1, 0, 0]), (2, [1, 1, 1, 1, 1, 0, 1, 0, 0]), (1, [2]), (0, [1, 1, 1, 1, 1, 1])].map (toItem (Tryz.f62.body.getD .skip))) [(0, .pointer x), (1, .pointer m0), (10, .int .i64 c)] w) (x m0 : Option Addr) (c : Int) (w : World) (h : nodelaw_AlikeKV.L2b x m0 c w  N2 R) :
    KW Tryz.prog 62 49 (nodelaw_AlikeKV.RV R) ([(0, [1, 1, 1, 1, 1, 0, 1, 0, 0]), (2, [1, 1, 1, 1, 1, 0, 1, 0, 0]), (1, [2]), (0, [1, 1, 1, 1, 1, 1])].map (toItem (Tryz.f62.body.getD .skip))) [(0, .pointer x), (1, .pointer m0), (10, .int .i64 c)] w := by
  exact block_spec Tryz.func62 Tryz.mixed (stops_cons (fun σ w h => by
      obtain ⟨x_, e0, h⟩ := dP_elim h
      obtain ⟨m0_, e1, h⟩ := dP_elim h
      obtain ⟨c_, e2, h⟩ := dI_elim h
      exact (hN2 x_ m0_ c_ w h).weaken (Sub.cons (Sub.cons (Sub.cons (Sub.nil _) e2) e1) e0)) stops_nil) (Eq.mp (nodelaw_AlikeKV.L2b_eq x m0 c w  N2 R ) h)
def nodelaw_AlikeKV.L2 (x m0 : Option Addr) (c : Int) (w : World)  (R : Bool → World → Prop) : Prop :=
  ∃ (I : Nat → Option Addr → Option Addr → Int → World → Prop) (m : Nat), I m x m0 c w ∧ ∀ m x m0 c w, I m x m0 c w → nodelaw_AlikeKV.L2b x m0 c w  (fun x' m0' c' w' => ∃ m', m' < m ∧ I m' x' m0' c' w') R
theorem nodelaw_AlikeKV.L2_sound {R : Bool → World → Prop}  (x m0 : Option Addr) (c : Int) (w : World) (h : nodelaw_AlikeKV.L2 x m0 c w  R) :
    KW Tryz.prog 62 49 (nodelaw_AlikeKV.RV R) ([(0, [1, 1, 1, 1, 1, 0, 1, 0, 0]), (2, [1, 1, 1, 1, 1, 0, 1, 0, 0]), (1, [2]), (0, [1, 1, 1, 1, 1, 1])].map (toItem (Tryz.f62.body.getD .skip))) [(0, .pointer x), (1, .pointer m0), (10, .int .i64 c)] w := by
  obtain ⟨I, m, hBase, hr⟩ := h
  refine KW.loop (fun m σ w => ∃ (x m0 : Option Addr) (c : Int), σ = [(0, .pointer x), (1, .pointer m0), (10, .int .i64 c)] ∧ I m x m0 c w) ?_ m _ w ⟨x, m0, c, rfl, hBase⟩
  rintro m ih σ w ⟨x, m0, c, rfl, hI⟩
  exact nodelaw_AlikeKV.L2b_sound  (N2 := fun x' m0' c' w' => ∃ m', m' < m ∧ I m' x' m0' c' w') (fun x' m0' c' w' hx => by obtain ⟨m', hlt, hI'⟩ := hx; exact ih m' hlt _ w' ⟨x', m0', c', rfl, hI'⟩) x m0 c w (hr m x m0 c w hI)
def nodelaw_AlikeKV.L1b (x m0 : Option Addr) (key : ByteArray) (n i : Int) (w : World)  (N1 : Option Addr → Option Addr → ByteArray → Int → Int → World → Prop) (R : Bool → World → Prop) : Prop :=
  Bm (decide (i ≤ n)) (
    nodelaw_SameKeyAt.Call x m0 i w fun r25 w1 =>
    Bm (!r25) (
      R false w1) (
      nodem_Node_KeyAt.Call m0 i w1 fun r29 w2 =>
      nodelaw_SameVal.Call x m0 r29 w2 fun r33 w3 =>
      Bm (!r33) (
        R false w3) (
        N1 x m0 key n (IntKind.i64.wrap (i + (1 : Int))) w3))) (
    nodelaw_SameVal.Call x m0 key w fun r38 w4 =>
    Bm (!r38) (
      R false w4) (
      nodelaw_AlikeKV.L2 x m0 (-1 : Int) w4  R))
theorem nodelaw_AlikeKV.L1b_eq (x m0 : Option Addr) (key : ByteArray) (n i : Int) (w : World)  (N1 : Option Addr → Option Addr → ByteArray → Int → Int → World → Prop) (R : Bool → World → Prop) (sL2 : Option Addr → Option Addr → Int → World → Prop) :
    (
  Bm (decide (i ≤ n)) (
    nodelaw_SameKeyAt.Call x m0 i w fun r25 w1 =>
    Bm (!r25) (
      R false w1) (
      nodem_Node_KeyAt.Call m0 i w1 fun r29 w2 =>
      nodelaw_SameVal.Call x m0 r29 w2 fun r33 w3 =>
      Bm (!r33) (
        R false w3) (
        N1 x m0 key n (IntKind.i64.wrap (i + (1 : Int))) w3))) (
    nodelaw_SameVal.Call x m0 key w fun r38 w4 =>
    Bm (!r38) (
      R false w4) (
      sL2 x m0 (-1 : Int) w4))) = kstep Tryz.prog 49 Tryz.f62.results.toList (Tryz.f62.body.getD .skip) (nodelaw_AlikeKV.RV R) (kvc Tryz.prog 49 Tryz.f62.results.toList (Tryz.f62.body.getD .skip) (nodelaw_AlikeKV.RV R) [([(0, [1, 1, 1, 0, 1, 0, 0]), (2, [1, 1, 1, 0, 1, 0, 0]), (1, [0]), (0, [1, 1, 1, 1])], fun σ w => dP (slotOf σ 0) fun x_ => dP (slotOf σ 1) fun m0_ => dS (slotOf σ 2) fun key_ => dI .i64 (slotOf σ 7) fun n_ => dI .i64 (slotOf σ 8) fun i_ => N1 x_ m0_ key_ n_ i_ w),
    ([(0, [1, 1, 1, 1, 1, 0, 1, 0, 0]), (2, [1, 1, 1, 1, 1, 0, 1, 0, 0]), (1, [2]), (0, [1, 1, 1, 1, 1, 1])], fun σ w => dP (slotOf σ 0) fun x_ => dP (slotOf σ 1) fun m0_ => dI .i64 (slotOf σ 10) fun c_ => sL2 x_ m0_ c_ w)] 2000) [(0, [1, 1, 1, 0, 1, 0, 0]), (2, [1, 1, 1, 0, 1, 0, 0]), (1, [0]), (0, [1, 1, 1, 1])] [(0, .pointer x), (1, .pointer m0), (2, .string key), (7, .int .i64 n), (8, .int .i64 i)] w := by kernel_rfl
theorem nodelaw_AlikeKV.L1b_sound {R : Bool → World → Prop} {N1 : Option Addr → Option Addr → ByteArray → Int → Int → World → Prop} (hN1 : ∀ x m0 key n i w, N1 x m0 key n i w → KW Tryz.prog 62 49 (nodelaw_AlikeKV.RV R) ([(0, [1, 1, 1, 0, 1, 0, 0]), (2, [1, 1, 1, 0, 1, 0, 0]), (1, [0]), (0, [1, 1, 1, 1])].map (toItem (Tryz.f62.body.getD .skip))) [(0, .pointer x), (1, .pointer m0), (2, .string key), (7, .int .i64 n), (8, .int .i64 i)] w) (x m0 : Option Addr) (key : ByteArray) (n i : Int) (w : World) (h : nodelaw_AlikeKV.L1b x m0 key n i w  N1 R) :
    KW Tryz.prog 62 49 (nodelaw_AlikeKV.RV R) ([(0, [1, 1, 1, 0, 1, 0, 0]), (2, [1, 1, 1, 0, 1, 0, 0]), (1, [0]), (0, [1, 1, 1, 1])].map (toItem (Tryz.f62.body.getD .skip))) [(0, .pointer x), (1, .pointer m0), (2, .string key), (7, .int .i64 n), (8, .int .i64 i)] w := by
  exact block_spec Tryz.func62 Tryz.mixed (stops_cons (fun σ w h => by
      obtain ⟨x_, e0, h⟩ := dP_elim h
      obtain ⟨m0_, e1, h⟩ := dP_elim h
      obtain ⟨key_, e2, h⟩ := dS_elim h
      obtain ⟨n_, e3, h⟩ := dI_elim h
      obtain ⟨i_, e4, h⟩ := dI_elim h
      exact (hN1 x_ m0_ key_ n_ i_ w h).weaken (Sub.cons (Sub.cons (Sub.cons (Sub.cons (Sub.cons (Sub.nil _) e4) e3) e2) e1) e0)) (stops_cons (fun σ w h => by
      obtain ⟨x_, e0, h⟩ := dP_elim h
      obtain ⟨m0_, e1, h⟩ := dP_elim h
      obtain ⟨c_, e2, h⟩ := dI_elim h
      exact (nodelaw_AlikeKV.L2_sound  x_ m0_ c_ w h).weaken (Sub.cons (Sub.cons (Sub.cons (Sub.nil _) e2) e1) e0)) stops_nil)) (Eq.mp (nodelaw_AlikeKV.L1b_eq x m0 key n i w  N1 R (fun x_ m0_ c_ w => nodelaw_AlikeKV.L2 x_ m0_ c_ w  R)) h)
def nodelaw_AlikeKV.L1 (x m0 : Option Addr) (key : ByteArray) (n i : Int) (w : World)  (R : Bool → World → Prop) : Prop :=
  ∃ (I : Nat → Option Addr → Option Addr → ByteArray → Int → Int → World → Prop) (m : Nat), I m x m0 key n i w ∧ ∀ m x m0 key n i w, I m x m0 key n i w → nodelaw_AlikeKV.L1b x m0 key n i w  (fun x' m0' key' n' i' w' => ∃ m', m' < m ∧ I m' x' m0' key' n' i' w') R
theorem nodelaw_AlikeKV.L1_sound {R : Bool → World → Prop}  (x m0 : Option Addr) (key : ByteArray) (n i : Int) (w : World) (h : nodelaw_AlikeKV.L1 x m0 key n i w  R) :
    KW Tryz.prog 62 49 (nodelaw_AlikeKV.RV R) ([(0, [1, 1, 1, 0, 1, 0, 0]), (2, [1, 1, 1, 0, 1, 0, 0]), (1, [0]), (0, [1, 1, 1, 1])].map (toItem (Tryz.f62.body.getD .skip))) [(0, .pointer x), (1, .pointer m0), (2, .string key), (7, .int .i64 n), (8, .int .i64 i)] w := by
  obtain ⟨I, m, hBase, hr⟩ := h
  refine KW.loop (fun m σ w => ∃ (x m0 : Option Addr) (key : ByteArray) (n i : Int), σ = [(0, .pointer x), (1, .pointer m0), (2, .string key), (7, .int .i64 n), (8, .int .i64 i)] ∧ I m x m0 key n i w) ?_ m _ w ⟨x, m0, key, n, i, rfl, hBase⟩
  rintro m ih σ w ⟨x, m0, key, n, i, rfl, hI⟩
  exact nodelaw_AlikeKV.L1b_sound  (N1 := fun x' m0' key' n' i' w' => ∃ m', m' < m ∧ I m' x' m0' key' n' i' w') (fun x' m0' key' n' i' w' hx => by obtain ⟨m', hlt, hI'⟩ := hx; exact ih m' hlt _ w' ⟨x', m0', key', n', i', rfl, hI'⟩) x m0 key n i w (hr m x m0 key n i w hI)
def nodelaw_AlikeKV.B0 (x m0 : Option Addr) (key : ByteArray) (w : World)   (R : Bool → World → Prop) : Prop :=
  nodelaw_SameLen.Call x m0 w fun r13 w1 =>
  Bm (!r13) (
    R false w1) (
    nodem_Node_Len.Call m0 w1 fun r16 w2 =>
    nodelaw_AlikeKV.L1 x m0 key r16 (-1 : Int) w2  R)
theorem nodelaw_AlikeKV.B0_eq (x m0 : Option Addr) (key : ByteArray) (w : World)   (R : Bool → World → Prop) (sL1 : Option Addr → Option Addr → ByteArray → Int → Int → World → Prop) :
    (
  nodelaw_SameLen.Call x m0 w fun r13 w1 =>
  Bm (!r13) (
    R false w1) (
    nodem_Node_Len.Call m0 w1 fun r16 w2 =>
    sL1 x m0 key r16 (-1 : Int) w2)) = kstep Tryz.prog 49 Tryz.f62.results.toList (Tryz.f62.body.getD .skip) (nodelaw_AlikeKV.RV R) (kvc Tryz.prog 49 Tryz.f62.results.toList (Tryz.f62.body.getD .skip) (nodelaw_AlikeKV.RV R) [([(0, [1, 1, 1, 0, 1, 0, 0]), (2, [1, 1, 1, 0, 1, 0, 0]), (1, [0]), (0, [1, 1, 1, 1])], fun σ w => dP (slotOf σ 0) fun x_ => dP (slotOf σ 1) fun m0_ => dS (slotOf σ 2) fun key_ => dI .i64 (slotOf σ 7) fun n_ => dI .i64 (slotOf σ 8) fun i_ => sL1 x_ m0_ key_ n_ i_ w)] 2000) [(0, [])] [(0, .pointer x), (1, .pointer m0), (2, .string key)] w := by kernel_rfl
theorem nodelaw_AlikeKV.B0_sound {R : Bool → World → Prop}  (x m0 : Option Addr) (key : ByteArray) (w : World) (h : nodelaw_AlikeKV.B0 x m0 key w   R) :
    KW Tryz.prog 62 49 (nodelaw_AlikeKV.RV R) ([(0, [])].map (toItem (Tryz.f62.body.getD .skip))) [(0, .pointer x), (1, .pointer m0), (2, .string key)] w := by
  exact block_spec Tryz.func62 Tryz.mixed (stops_cons (fun σ w h => by
      obtain ⟨x_, e0, h⟩ := dP_elim h
      obtain ⟨m0_, e1, h⟩ := dP_elim h
      obtain ⟨key_, e2, h⟩ := dS_elim h
      obtain ⟨n_, e3, h⟩ := dI_elim h
      obtain ⟨i_, e4, h⟩ := dI_elim h
      exact (nodelaw_AlikeKV.L1_sound  x_ m0_ key_ n_ i_ w h).weaken (Sub.cons (Sub.cons (Sub.cons (Sub.cons (Sub.cons (Sub.nil _) e4) e3) e2) e1) e0)) stops_nil) (Eq.mp (nodelaw_AlikeKV.B0_eq x m0 key w   R (fun x_ m0_ key_ n_ i_ w => nodelaw_AlikeKV.L1 x_ m0_ key_ n_ i_ w  R)) h)
theorem nodelaw_AlikeKV.sound (x m0 : Option Addr) (key : ByteArray) (w : World) (R : Bool → World → Prop) (h : nodelaw_AlikeKV.B0 x m0 key w R) : nodelaw_AlikeKV.Call x m0 key w R := by
  have hc := calls_of_block (args := #[.pointer x, .pointer m0, .string key]) Tryz.func62 (body := (Tryz.f62.body.getD .skip)) (by kernel_rfl) (by kernel_rfl) (args_slot _) (nodelaw_AlikeKV.B0_sound x m0 key w h)
  exact hc.mono fun e w' he => by
    obtain ⟨v, rfl, hv⟩ := he
    exact nodelaw_AlikeKV.RV_elim hv
def diskm_blocks.B0 (a_b : Option Addr) (a_l a_c : Nat) (w : World)   (R : Option Addr → Nat → Nat → World → Prop) : Prop :=
  Make 9 (.string (ByteArray.mk #[])) 1 16 ((a_l : Nat) : Int) ((a_l : Nat) : Int) w fun b6 w1 =>
  Copy 1 (some ⟨b6, 0, none⟩) (((a_l : Nat) : Int).toNat) a_b a_l w1 fun n9 w2 =>
  R (some ⟨b6, 0, none⟩) (((a_l : Nat) : Int).toNat) (((a_l : Nat) : Int).toNat) w2
theorem diskm_blocks.B0_eq (a_b : Option Addr) (a_l a_c : Nat) (w : World)   (R : Option Addr → Nat → Nat → World → Prop)  :
    (
  Make 9 (.string (ByteArray.mk #[])) 1 16 ((a_l : Nat) : Int) ((a_l : Nat) : Int) w fun b6 w1 =>
  Copy 1 (some ⟨b6, 0, none⟩) (((a_l : Nat) : Int).toNat) a_b a_l w1 fun n9 w2 =>
  R (some ⟨b6, 0, none⟩) (((a_l : Nat) : Int).toNat) (((a_l : Nat) : Int).toNat) w2) = kstep Tryz.prog 11 Tryz.f63.results.toList (Tryz.f63.body.getD .skip) (diskm_blocks.RV R) (kvc Tryz.prog 11 Tryz.f63.results.toList (Tryz.f63.body.getD .skip) (diskm_blocks.RV R) [] 2000) [(0, [])] [(0, .slice a_b a_l a_c)] w := by kernel_rfl
theorem diskm_blocks.B0_sound {R : Option Addr → Nat → Nat → World → Prop}  (a_b : Option Addr) (a_l a_c : Nat) (w : World) (h : diskm_blocks.B0 a_b a_l a_c w   R) :
    KW Tryz.prog 63 11 (diskm_blocks.RV R) ([(0, [])].map (toItem (Tryz.f63.body.getD .skip))) [(0, .slice a_b a_l a_c)] w := by
  exact block_spec Tryz.func63 Tryz.mixed stops_nil (Eq.mp (diskm_blocks.B0_eq a_b a_l a_c w   R ) h)
theorem diskm_blocks.sound (a_b : Option Addr) (a_l a_c : Nat) (w : World) (R : Option Addr → Nat → Nat → World → Prop) (h : diskm_blocks.B0 a_b a_l a_c w R) : diskm_blocks.Call a_b a_l a_c w R := by
  have hc := calls_of_block (args := #[.slice a_b a_l a_c]) Tryz.func63 (body := (Tryz.f63.body.getD .skip)) (by kernel_rfl) (by kernel_rfl) (args_slot _) (diskm_blocks.B0_sound a_b a_l a_c w h)
  exact hc.mono fun e w' he => by
    obtain ⟨v, rfl, hv⟩ := he
    exact diskm_blocks.RV_elim hv
def store_Open.B3 (t : Nat) (b : Int) (w : World) (N1 : Nat → Int → World → Prop)  (R : Option Addr → World → Prop) : Prop :=
  N1 t (IntKind.i64.wrap (b + (1 : Int))) w
theorem store_Open.B3_eq (t : Nat) (b : Int) (w : World) (N1 : Nat → Int → World → Prop)  (R : Option Addr → World → Prop)  :
    (
  N1 t (IntKind.i64.wrap (b + (1 : Int))) w) = kstep Tryz.prog 168 Tryz.f64.results.toList (Tryz.f64.body.getD .skip) (store_Open.RV R) (kvc Tryz.prog 168 Tryz.f64.results.toList (Tryz.f64.body.getD .skip) (store_Open.RV R) [([(0, [1, 1, 0, 1, 0, 0]), (2, [1, 1, 0, 1, 0, 0]), (1, [0]), (0, [1, 1, 1])], fun σ w => dK (slotOf σ 3) fun t_ => dI .i64 (slotOf σ 4) fun b_ => N1 t_ b_ w)] 2000) [(0, [1, 1, 0, 1, 0, 0, 1, 1]), (2, [1, 1, 0, 1, 0, 0]), (1, [0]), (0, [1, 1, 1])] [(3, .pointer (some ⟨t, 0, none⟩)), (4, .int .i64 b)] w := by kernel_rfl
theorem store_Open.B3_sound {R : Option Addr → World → Prop} {N1 : Nat → Int → World → Prop} (hN1 : ∀ t b w, N1 t b w → KW Tryz.prog 64 168 (store_Open.RV R) ([(0, [1, 1, 0, 1, 0, 0]), (2, [1, 1, 0, 1, 0, 0]), (1, [0]), (0, [1, 1, 1])].map (toItem (Tryz.f64.body.getD .skip))) [(3, .pointer (some ⟨t, 0, none⟩)), (4, .int .i64 b)] w) (t : Nat) (b : Int) (w : World) (h : store_Open.B3 t b w N1  R) :
    KW Tryz.prog 64 168 (store_Open.RV R) ([(0, [1, 1, 0, 1, 0, 0, 1, 1]), (2, [1, 1, 0, 1, 0, 0]), (1, [0]), (0, [1, 1, 1])].map (toItem (Tryz.f64.body.getD .skip))) [(3, .pointer (some ⟨t, 0, none⟩)), (4, .int .i64 b)] w := by
  exact block_spec Tryz.func64 Tryz.mixed (stops_cons (fun σ w h => by
      obtain ⟨t_, e0, h⟩ := dK_elim h
      obtain ⟨b_, e1, h⟩ := dI_elim h
      exact (hN1 t_ b_ w h).weaken (Sub.cons (Sub.cons (Sub.nil _) e1) e0)) stops_nil) (Eq.mp (store_Open.B3_eq t b w N1  R ) h)
def store_Open.B1 (t : Nat) (b : Int) (x : ByteArray) (t29 : Bool) (w : World) (N1 : Nat → Int → World → Prop)  (R : Option Addr → World → Prop) : Prop :=
  Bm t29 (
    (0 ≤ (63 : Int) ∧ (63 : Int) < ((x.size : Nat) : Int)) ∧
    (0 ≤ b ∧ b < ((14 : Nat) : Int)) ∧
    Sts [.int .u8 (byteAt x (63 : Int))] (Addr.add ⟨t, 1, none⟩ (b.toNat * 1)) 0 w.drew fun w1 =>
    store_Open.B3 t b w1 N1 R) (
    store_Open.B3 t b w N1 R)
theorem store_Open.B1_eq (t : Nat) (b : Int) (x : ByteArray) (t29 : Bool) (w : World) (N1 : Nat → Int → World → Prop)  (R : Option Addr → World → Prop) (sB3 : Nat → Int → World → Prop) :
    (
  Bm t29 (
    (0 ≤ (63 : Int) ∧ (63 : Int) < ((x.size : Nat) : Int)) ∧
    (0 ≤ b ∧ b < ((14 : Nat) : Int)) ∧
    Sts [.int .u8 (byteAt x (63 : Int))] (Addr.add ⟨t, 1, none⟩ (b.toNat * 1)) 0 w.drew fun w1 =>
    sB3 t b w1) (
    sB3 t b w)) = kstep Tryz.prog 168 Tryz.f64.results.toList (Tryz.f64.body.getD .skip) (store_Open.RV R) (kvc Tryz.prog 168 Tryz.f64.results.toList (Tryz.f64.body.getD .skip) (store_Open.RV R) [([(0, [1, 1, 0, 1, 0, 0, 1, 1]), (2, [1, 1, 0, 1, 0, 0]), (1, [0]), (0, [1, 1, 1])], fun σ w => dK (slotOf σ 3) fun t_ => dI .i64 (slotOf σ 4) fun b_ => sB3 t_ b_ w)] 2000) [(0, [1, 1, 0, 1, 0, 0, 1, 0, 0, 1, 1]), (1, [1]), (0, [1, 1, 0, 1, 0, 0, 1, 1]), (2, [1, 1, 0, 1, 0, 0]), (1, [0]), (0, [1, 1, 1])] [(3, .pointer (some ⟨t, 0, none⟩)), (4, .int .i64 b), (5, .string x), (29, .bool t29)] w := by kernel_rfl
theorem store_Open.B1_sound {R : Option Addr → World → Prop} {N1 : Nat → Int → World → Prop} (hN1 : ∀ t b w, N1 t b w → KW Tryz.prog 64 168 (store_Open.RV R) ([(0, [1, 1, 0, 1, 0, 0]), (2, [1, 1, 0, 1, 0, 0]), (1, [0]), (0, [1, 1, 1])].map (toItem (Tryz.f64.body.getD .skip))) [(3, .pointer (some ⟨t, 0, none⟩)), (4, .int .i64 b)] w) (t : Nat) (b : Int) (x : ByteArray) (t29 : Bool) (w : World) (h : store_Open.B1 t b x t29 w N1  R) :
    KW Tryz.prog 64 168 (store_Open.RV R) ([(0, [1, 1, 0, 1, 0, 0, 1, 0, 0, 1, 1]), (1, [1]), (0, [1, 1, 0, 1, 0, 0, 1, 1]), (2, [1, 1, 0, 1, 0, 0]), (1, [0]), (0, [1, 1, 1])].map (toItem (Tryz.f64.body.getD .skip))) [(3, .pointer (some ⟨t, 0, none⟩)), (4, .int .i64 b), (5, .string x), (29, .bool t29)] w := by
  exact block_spec Tryz.func64 Tryz.mixed (stops_cons (fun σ w h => by
      obtain ⟨t_, e0, h⟩ := dK_elim h
      obtain ⟨b_, e1, h⟩ := dI_elim h
      exact (store_Open.B3_sound hN1 t_ b_ w h).weaken (Sub.cons (Sub.cons (Sub.nil _) e1) e0)) stops_nil) (Eq.mp (store_Open.B1_eq t b x t29 w N1  R (fun t_ b_ w => store_Open.B3 t_ b_ w N1 R)) h)
def store_Open.L2b (t : Nat) (s : Int) (w : World)  (N2 : Nat → Int → World → Prop) (R : Option Addr → World → Prop) : Prop :=
  Bm (decide (s < (6 : Int))) (
    store_Store_read.Call (some ⟨t, 0, none⟩) (IntKind.i64.wrap ((8 : Int) + s)) w fun r151 w1 =>
    store_decRec.Call r151 w1.drew fun r158_0_0 r158_0_1 r158_0_2 r158_1 w2 =>
    (0 ≤ s ∧ s < ((6 : Nat) : Int)) ∧
    Sts [.int .i64 r158_0_0, .int .i64 r158_0_1, .string r158_0_2] (Addr.add ⟨t, 34, none⟩ (s.toNat * 3)) 0 w2 fun w3 =>
    (0 ≤ s ∧ s < ((6 : Nat) : Int)) ∧
    Sts [.bool r158_1] (Addr.add ⟨t, 28, none⟩ (s.toNat * 1)) 0 w3 fun w4 =>
    N2 t (IntKind.i64.wrap (s + (1 : Int))) w4) (
    R (some ⟨t, 0, none⟩) w)
theorem store_Open.L2b_eq (t : Nat) (s : Int) (w : World)  (N2 : Nat → Int → World → Prop) (R : Option Addr → World → Prop)  :
    (
  Bm (decide (s < (6 : Int))) (
    store_Store_read.Call (some ⟨t, 0, none⟩) (IntKind.i64.wrap ((8 : Int) + s)) w fun r151 w1 =>
    store_decRec.Call r151 w1.drew fun r158_0_0 r158_0_1 r158_0_2 r158_1 w2 =>
    (0 ≤ s ∧ s < ((6 : Nat) : Int)) ∧
    Sts [.int .i64 r158_0_0, .int .i64 r158_0_1, .string r158_0_2] (Addr.add ⟨t, 34, none⟩ (s.toNat * 3)) 0 w2 fun w3 =>
    (0 ≤ s ∧ s < ((6 : Nat) : Int)) ∧
    Sts [.bool r158_1] (Addr.add ⟨t, 28, none⟩ (s.toNat * 1)) 0 w3 fun w4 =>
    N2 t (IntKind.i64.wrap (s + (1 : Int))) w4) (
    R (some ⟨t, 0, none⟩) w)) = kstep Tryz.prog 168 Tryz.f64.results.toList (Tryz.f64.body.getD .skip) (store_Open.RV R) (kvc Tryz.prog 168 Tryz.f64.results.toList (Tryz.f64.body.getD .skip) (store_Open.RV R) [([(0, [1, 1, 1, 1, 1, 1, 1, 1, 1, 1, 1, 1, 1, 1, 1, 1, 1, 1, 0, 1, 0, 0]), (2, [1, 1, 1, 1, 1, 1, 1, 1, 1, 1, 1, 1, 1, 1, 1, 1, 1, 1, 0, 1, 0, 0]), (1, [2]), (0, [1, 1, 1, 1, 1, 1, 1, 1, 1, 1, 1, 1, 1, 1, 1, 1, 1, 1, 1])], fun σ w => dK (slotOf σ 3) fun t_ => dI .i64 (slotOf σ 12) fun s_ => N2 t_ s_ w)] 2000) [(0, [1, 1, 1, 1, 1, 1, 1, 1, 1, 1, 1, 1, 1, 1, 1, 1, 1, 1, 0, 1, 0, 0]), (2, [1, 1, 1, 1, 1, 1, 1, 1, 1, 1, 1, 1, 1, 1, 1, 1, 1, 1, 0, 1, 0, 0]), (1, [2]), (0, [1, 1, 1, 1, 1, 1, 1, 1, 1, 1, 1, 1, 1, 1, 1, 1, 1, 1, 1])] [(3, .pointer (some ⟨t, 0, none⟩)), (12, .int .i64 s)] w := by kernel_rfl
theorem store_Open.L2b_sound {R : Option Addr → World → Prop} {N2 : Nat → Int → World → Prop} (hN2 : ∀ t s w, N2 t s w → KW Tryz.prog 64 168 (store_Open.RV R) ([(0, [1, 1, 1, 1, 1, 1, 1, 1, 1, 1, 1, 1, 1, 1, 1, 1, 1, 1, 0, 1, 0, 0]), (2, [1, 1, 1, 1, 1, 1, 1, 1, 1, 1, 1, 1, 1, 1, 1, 1, 1, 1, 0, 1, 0, 0]), (1, [2]), (0, [1, 1, 1, 1, 1, 1, 1, 1, 1, 1, 1, 1, 1, 1, 1, 1, 1, 1, 1])].map (toItem (Tryz.f64.body.getD .skip))) [(3, .pointer (some ⟨t, 0, none⟩)), (12, .int .i64 s)] w) (t : Nat) (s : Int) (w : World) (h : store_Open.L2b t s w  N2 R) :
    KW Tryz.prog 64 168 (store_Open.RV R) ([(0, [1, 1, 1, 1, 1, 1, 1, 1, 1, 1, 1, 1, 1, 1, 1, 1, 1, 1, 0, 1, 0, 0]), (2, [1, 1, 1, 1, 1, 1, 1, 1, 1, 1, 1, 1, 1, 1, 1, 1, 1, 1, 0, 1, 0, 0]), (1, [2]), (0, [1, 1, 1, 1, 1, 1, 1, 1, 1, 1, 1, 1, 1, 1, 1, 1, 1, 1, 1])].map (toItem (Tryz.f64.body.getD .skip))) [(3, .pointer (some ⟨t, 0, none⟩)), (12, .int .i64 s)] w := by
  exact block_spec Tryz.func64 Tryz.mixed (stops_cons (fun σ w h => by
      obtain ⟨t_, e0, h⟩ := dK_elim h
      obtain ⟨s_, e1, h⟩ := dI_elim h
      exact (hN2 t_ s_ w h).weaken (Sub.cons (Sub.cons (Sub.nil _) e1) e0)) stops_nil) (Eq.mp (store_Open.L2b_eq t s w  N2 R ) h)
def store_Open.L2 (t : Nat) (s : Int) (w : World)  (R : Option Addr → World → Prop) : Prop :=
  ∃ (I : Nat → Nat → Int → World → Prop) (m : Nat), I m t s w ∧ ∀ m t s w, I m t s w → store_Open.L2b t s w  (fun t' s' w' => ∃ m', m' < m ∧ I m' t' s' w') R
theorem store_Open.L2_sound {R : Option Addr → World → Prop}  (t : Nat) (s : Int) (w : World) (h : store_Open.L2 t s w  R) :
    KW Tryz.prog 64 168 (store_Open.RV R) ([(0, [1, 1, 1, 1, 1, 1, 1, 1, 1, 1, 1, 1, 1, 1, 1, 1, 1, 1, 0, 1, 0, 0]), (2, [1, 1, 1, 1, 1, 1, 1, 1, 1, 1, 1, 1, 1, 1, 1, 1, 1, 1, 0, 1, 0, 0]), (1, [2]), (0, [1, 1, 1, 1, 1, 1, 1, 1, 1, 1, 1, 1, 1, 1, 1, 1, 1, 1, 1])].map (toItem (Tryz.f64.body.getD .skip))) [(3, .pointer (some ⟨t, 0, none⟩)), (12, .int .i64 s)] w := by
  obtain ⟨I, m, hBase, hr⟩ := h
  refine KW.loop (fun m σ w => ∃ (t : Nat) (s : Int), σ = [(3, .pointer (some ⟨t, 0, none⟩)), (12, .int .i64 s)] ∧ I m t s w) ?_ m _ w ⟨t, s, rfl, hBase⟩
  rintro m ih σ w ⟨t, s, rfl, hI⟩
  exact store_Open.L2b_sound  (N2 := fun t' s' w' => ∃ m', m' < m ∧ I m' t' s' w') (fun t' s' w' hx => by obtain ⟨m', hlt, hI'⟩ := hx; exact ih m' hlt _ w' ⟨t', s', rfl, hI'⟩) t s w (hr m t s w hI)
def store_Open.B8 (t : Nat) (w : World)   (R : Option Addr → World → Prop) : Prop :=
  LdI .i64 ⟨t, 24, none⟩ w.drew fun x135 =>
  LdI .i64 ⟨t, 25, none⟩ w.drew fun x140 =>
  store_Store_area.Call (some ⟨t, 0, none⟩) x135 x140 w.drew fun r141 w1 =>
  Sts [.string r141] ⟨t, 27, none⟩ 0 w1 fun w2 =>
  store_Open.L2 t (0 : Int) w2  R
theorem store_Open.B8_eq (t : Nat) (w : World)   (R : Option Addr → World → Prop) (sL2 : Nat → Int → World → Prop) :
    (
  LdI .i64 ⟨t, 24, none⟩ w.drew fun x135 =>
  LdI .i64 ⟨t, 25, none⟩ w.drew fun x140 =>
  store_Store_area.Call (some ⟨t, 0, none⟩) x135 x140 w.drew fun r141 w1 =>
  Sts [.string r141] ⟨t, 27, none⟩ 0 w1 fun w2 =>
  sL2 t (0 : Int) w2) = kstep Tryz.prog 168 Tryz.f64.results.toList (Tryz.f64.body.getD .skip) (store_Open.RV R) (kvc Tryz.prog 168 Tryz.f64.results.toList (Tryz.f64.body.getD .skip) (store_Open.RV R) [([(0, [1, 1, 1, 1, 1, 1, 1, 1, 1, 1, 1, 1, 1, 1, 1, 1, 1, 1, 0, 1, 0, 0]), (2, [1, 1, 1, 1, 1, 1, 1, 1, 1, 1, 1, 1, 1, 1, 1, 1, 1, 1, 0, 1, 0, 0]), (1, [2]), (0, [1, 1, 1, 1, 1, 1, 1, 1, 1, 1, 1, 1, 1, 1, 1, 1, 1, 1, 1])], fun σ w => dK (slotOf σ 3) fun t_ => dI .i64 (slotOf σ 12) fun s_ => sL2 t_ s_ w)] 2000) [(0, [1, 1, 1, 1, 1, 1, 1, 1, 1, 1, 1, 1, 1, 1, 1, 1, 1])] [(3, .pointer (some ⟨t, 0, none⟩))] w := by kernel_rfl
theorem store_Open.B8_sound {R : Option Addr → World → Prop}  (t : Nat) (w : World) (h : store_Open.B8 t w   R) :
    KW Tryz.prog 64 168 (store_Open.RV R) ([(0, [1, 1, 1, 1, 1, 1, 1, 1, 1, 1, 1, 1, 1, 1, 1, 1, 1])].map (toItem (Tryz.f64.body.getD .skip))) [(3, .pointer (some ⟨t, 0, none⟩))] w := by
  exact block_spec Tryz.func64 Tryz.mixed (stops_cons (fun σ w h => by
      obtain ⟨t_, e0, h⟩ := dK_elim h
      obtain ⟨s_, e1, h⟩ := dI_elim h
      exact (store_Open.L2_sound  t_ s_ w h).weaken (Sub.cons (Sub.cons (Sub.nil _) e1) e0)) stops_nil) (Eq.mp (store_Open.B8_eq t w   R (fun t_ s_ w => store_Open.L2 t_ s_ w  R)) h)
def store_Open.B7 (t : Nat) (w : World)   (R : Option Addr → World → Prop) : Prop :=
  LdB ⟨t, 20, none⟩ w fun x123 =>
  Bm (!x123) (
    Sts [.int .i64 (1 : Int)] ⟨t, 24, none⟩ 0 w fun w1 =>
    store_Open.B8 t w1  R) (
    store_Open.B8 t w  R)
theorem store_Open.B7_eq (t : Nat) (w : World)   (R : Option Addr → World → Prop) (sB8 : Nat → World → Prop) :
    (
  LdB ⟨t, 20, none⟩ w fun x123 =>
  Bm (!x123) (
    Sts [.int .i64 (1 : Int)] ⟨t, 24, none⟩ 0 w fun w1 =>
    sB8 t w1) (
    sB8 t w)) = kstep Tryz.prog 168 Tryz.f64.results.toList (Tryz.f64.body.getD .skip) (store_Open.RV R) (kvc Tryz.prog 168 Tryz.f64.results.toList (Tryz.f64.body.getD .skip) (store_Open.RV R) [([(0, [1, 1, 1, 1, 1, 1, 1, 1, 1, 1, 1, 1, 1, 1, 1, 1, 1])], fun σ w => dK (slotOf σ 3) fun t_ => sB8 t_ w)] 2000) [(0, [1, 1, 1, 1, 1, 1, 1, 1, 1, 1, 1, 1, 1, 1, 1, 1])] [(3, .pointer (some ⟨t, 0, none⟩))] w := by kernel_rfl
theorem store_Open.B7_sound {R : Option Addr → World → Prop}  (t : Nat) (w : World) (h : store_Open.B7 t w   R) :
    KW Tryz.prog 64 168 (store_Open.RV R) ([(0, [1, 1, 1, 1, 1, 1, 1, 1, 1, 1, 1, 1, 1, 1, 1, 1])].map (toItem (Tryz.f64.body.getD .skip))) [(3, .pointer (some ⟨t, 0, none⟩))] w := by
  exact block_spec Tryz.func64 Tryz.mixed (stops_cons (fun σ w h => by
      obtain ⟨t_, e0, h⟩ := dK_elim h
      exact (store_Open.B8_sound  t_ w h).weaken (Sub.cons (Sub.nil _) e0)) stops_nil) (Eq.mp (store_Open.B7_eq t w   R (fun t_ w => store_Open.B8 t_ w  R)) h)
def store_Open.B6 (t h0 : Nat) (t111 : Bool) (w : World)   (R : Option Addr → World → Prop) : Prop :=
  Bm t111 (
    LdB ⟨h0, 0, none⟩ w fun x114_0 =>
    LdI .i64 ⟨h0, 1, none⟩ w fun x114_1 =>
    LdI .i64 ⟨h0, 2, none⟩ w fun x114_2 =>
    LdI .i64 ⟨h0, 3, none⟩ w fun x114_3 =>
    LdI .i64 ⟨h0, 4, none⟩ w fun x114_4 =>
    LdI .i64 ⟨h0, 5, none⟩ w fun x114_5 =>
    Sts [.bool x114_0, .int .i64 x114_1, .int .i64 x114_2, .int .i64 x114_3, .int .i64 x114_4, .int .i64 x114_5] ⟨t, 20, none⟩ 0 w fun w1 =>
    Sts [.int .i64 (0 : Int)] ⟨t, 26, none⟩ 0 w1 fun w2 =>
    store_Open.B7 t w2  R) (
    store_Open.B7 t w  R)
theorem store_Open.B6_eq (t h0 : Nat) (t111 : Bool) (w : World)   (R : Option Addr → World → Prop) (sB7 : Nat → World → Prop) :
    (
  Bm t111 (
    LdB ⟨h0, 0, none⟩ w fun x114_0 =>
    LdI .i64 ⟨h0, 1, none⟩ w fun x114_1 =>
    LdI .i64 ⟨h0, 2, none⟩ w fun x114_2 =>
    LdI .i64 ⟨h0, 3, none⟩ w fun x114_3 =>
    LdI .i64 ⟨h0, 4, none⟩ w fun x114_4 =>
    LdI .i64 ⟨h0, 5, none⟩ w fun x114_5 =>
    Sts [.bool x114_0, .int .i64 x114_1, .int .i64 x114_2, .int .i64 x114_3, .int .i64 x114_4, .int .i64 x114_5] ⟨t, 20, none⟩ 0 w fun w1 =>
    Sts [.int .i64 (0 : Int)] ⟨t, 26, none⟩ 0 w1 fun w2 =>
    sB7 t w2) (
    sB7 t w)) = kstep Tryz.prog 168 Tryz.f64.results.toList (Tryz.f64.body.getD .skip) (store_Open.RV R) (kvc Tryz.prog 168 Tryz.f64.results.toList (Tryz.f64.body.getD .skip) (store_Open.RV R) [([(0, [1, 1, 1, 1, 1, 1, 1, 1, 1, 1, 1, 1, 1, 1, 1, 1])], fun σ w => dK (slotOf σ 3) fun t_ => sB7 t_ w)] 2000) [(0, [1, 1, 1, 1, 1, 1, 1, 1, 1, 1, 1, 1, 1, 1, 1, 0, 1]), (0, [1, 1, 1, 1, 1, 1, 1, 1, 1, 1, 1, 1, 1, 1, 1, 1])] [(3, .pointer (some ⟨t, 0, none⟩)), (10, .pointer (some ⟨h0, 0, none⟩)), (111, .bool t111)] w := by kernel_rfl
theorem store_Open.B6_sound {R : Option Addr → World → Prop}  (t h0 : Nat) (t111 : Bool) (w : World) (h : store_Open.B6 t h0 t111 w   R) :
    KW Tryz.prog 64 168 (store_Open.RV R) ([(0, [1, 1, 1, 1, 1, 1, 1, 1, 1, 1, 1, 1, 1, 1, 1, 0, 1]), (0, [1, 1, 1, 1, 1, 1, 1, 1, 1, 1, 1, 1, 1, 1, 1, 1])].map (toItem (Tryz.f64.body.getD .skip))) [(3, .pointer (some ⟨t, 0, none⟩)), (10, .pointer (some ⟨h0, 0, none⟩)), (111, .bool t111)] w := by
  exact block_spec Tryz.func64 Tryz.mixed (stops_cons (fun σ w h => by
      obtain ⟨t_, e0, h⟩ := dK_elim h
      exact (store_Open.B7_sound  t_ w h).weaken (Sub.cons (Sub.nil _) e0)) stops_nil) (Eq.mp (store_Open.B6_eq t h0 t111 w   R (fun t_ w => store_Open.B7 t_ w  R)) h)
def store_Open.B5 (t : Nat) (w : World)   (R : Option Addr → World → Prop) : Prop :=
  store_Store_read.Call (some ⟨t, 0, none⟩) (2 : Int) w fun r84 w1 =>
  store_Store_read.Call (some ⟨t, 0, none⟩) (3 : Int) w1 fun r86 w2 =>
  store_decHead.Call r84 w2 fun r88_0 r88_1 r88_2 r88_3 r88_4 r88_5 w3 =>
  New (.cells #[.bool false, .int .i64 (0 : Int), .int .i64 (0 : Int), .int .i64 (0 : Int), .int .i64 (0 : Int), .int .i64 (0 : Int)] 182) w3 fun h0_ w4 =>
  Sts [.bool r88_0, .int .i64 r88_1, .int .i64 r88_2, .int .i64 r88_3, .int .i64 r88_4, .int .i64 r88_5] ⟨h0_, 0, none⟩ 0 w4 fun w5 =>
  store_decHead.Call r86 w5 fun r90_0 r90_1 r90_2 r90_3 r90_4 r90_5 w6 =>
  New (.cells #[.bool false, .int .i64 (0 : Int), .int .i64 (0 : Int), .int .i64 (0 : Int), .int .i64 (0 : Int), .int .i64 (0 : Int)] 182) w6 fun h1_ w7 =>
  Sts [.bool r90_0, .int .i64 r90_1, .int .i64 r90_2, .int .i64 r90_3, .int .i64 r90_4, .int .i64 r90_5] ⟨h1_, 0, none⟩ 0 w7 fun w8 =>
  LdB ⟨h1_, 0, none⟩ w8 fun x93_0 =>
  LdI .i64 ⟨h1_, 1, none⟩ w8 fun x93_1 =>
  LdI .i64 ⟨h1_, 2, none⟩ w8 fun x93_2 =>
  LdI .i64 ⟨h1_, 3, none⟩ w8 fun x93_3 =>
  LdI .i64 ⟨h1_, 4, none⟩ w8 fun x93_4 =>
  LdI .i64 ⟨h1_, 5, none⟩ w8 fun x93_5 =>
  Sts [.bool x93_0, .int .i64 x93_1, .int .i64 x93_2, .int .i64 x93_3, .int .i64 x93_4, .int .i64 x93_5] ⟨t, 20, none⟩ 0 w8 fun w9 =>
  Sts [.int .i64 (1 : Int)] ⟨t, 26, none⟩ 0 w9 fun w10 =>
  LdB ⟨h0_, 0, none⟩ w10 fun x99 =>
  Bm x99 (
    LdB ⟨h1_, 0, none⟩ w10 fun x102 =>
    Bm (!x102) (
      store_Open.B6 t h0_ true w10  R) (
      LdI .i64 ⟨h0_, 1, none⟩ w10 fun x106 =>
      LdI .i64 ⟨h1_, 1, none⟩ w10 fun x108 =>
      store_Open.B6 t h0_ (decide (x106 > x108)) w10  R)) (
    store_Open.B6 t h0_ false w10  R)
theorem store_Open.B5_eq (t : Nat) (w : World)   (R : Option Addr → World → Prop) (sB6 : Nat → Nat → Bool → World → Prop) :
    (
  store_Store_read.Call (some ⟨t, 0, none⟩) (2 : Int) w fun r84 w1 =>
  store_Store_read.Call (some ⟨t, 0, none⟩) (3 : Int) w1 fun r86 w2 =>
  store_decHead.Call r84 w2 fun r88_0 r88_1 r88_2 r88_3 r88_4 r88_5 w3 =>
  New (.cells #[.bool false, .int .i64 (0 : Int), .int .i64 (0 : Int), .int .i64 (0 : Int), .int .i64 (0 : Int), .int .i64 (0 : Int)] 182) w3 fun h0_ w4 =>
  Sts [.bool r88_0, .int .i64 r88_1, .int .i64 r88_2, .int .i64 r88_3, .int .i64 r88_4, .int .i64 r88_5] ⟨h0_, 0, none⟩ 0 w4 fun w5 =>
  store_decHead.Call r86 w5 fun r90_0 r90_1 r90_2 r90_3 r90_4 r90_5 w6 =>
  New (.cells #[.bool false, .int .i64 (0 : Int), .int .i64 (0 : Int), .int .i64 (0 : Int), .int .i64 (0 : Int), .int .i64 (0 : Int)] 182) w6 fun h1_ w7 =>
  Sts [.bool r90_0, .int .i64 r90_1, .int .i64 r90_2, .int .i64 r90_3, .int .i64 r90_4, .int .i64 r90_5] ⟨h1_, 0, none⟩ 0 w7 fun w8 =>
  LdB ⟨h1_, 0, none⟩ w8 fun x93_0 =>
  LdI .i64 ⟨h1_, 1, none⟩ w8 fun x93_1 =>
  LdI .i64 ⟨h1_, 2, none⟩ w8 fun x93_2 =>
  LdI .i64 ⟨h1_, 3, none⟩ w8 fun x93_3 =>
  LdI .i64 ⟨h1_, 4, none⟩ w8 fun x93_4 =>
  LdI .i64 ⟨h1_, 5, none⟩ w8 fun x93_5 =>
  Sts [.bool x93_0, .int .i64 x93_1, .int .i64 x93_2, .int .i64 x93_3, .int .i64 x93_4, .int .i64 x93_5] ⟨t, 20, none⟩ 0 w8 fun w9 =>
  Sts [.int .i64 (1 : Int)] ⟨t, 26, none⟩ 0 w9 fun w10 =>
  LdB ⟨h0_, 0, none⟩ w10 fun x99 =>
  Bm x99 (
    LdB ⟨h1_, 0, none⟩ w10 fun x102 =>
    Bm (!x102) (
      sB6 t h0_ true w10) (
      LdI .i64 ⟨h0_, 1, none⟩ w10 fun x106 =>
      LdI .i64 ⟨h1_, 1, none⟩ w10 fun x108 =>
      sB6 t h0_ (decide (x106 > x108)) w10)) (
    sB6 t h0_ false w10)) = kstep Tryz.prog 168 Tryz.f64.results.toList (Tryz.f64.body.getD .skip) (store_Open.RV R) (kvc Tryz.prog 168 Tryz.f64.results.toList (Tryz.f64.body.getD .skip) (store_Open.RV R) [([(0, [1, 1, 1, 1, 1, 1, 1, 1, 1, 1, 1, 1, 1, 1, 1, 0, 1]), (0, [1, 1, 1, 1, 1, 1, 1, 1, 1, 1, 1, 1, 1, 1, 1, 1])], fun σ w => dK (slotOf σ 3) fun t_ => dK (slotOf σ 10) fun h0_ => dB (slotOf σ 111) fun t111_ => sB6 t_ h0_ t111_ w)] 2000) [(0, [1, 1, 1, 1, 1, 1, 1, 1, 1, 1])] [(3, .pointer (some ⟨t, 0, none⟩))] w := by kernel_rfl
theorem store_Open.B5_sound {R : Option Addr → World → Prop}  (t : Nat) (w : World) (h : store_Open.B5 t w   R) :
    KW Tryz.prog 64 168 (store_Open.RV R) ([(0, [1, 1, 1, 1, 1, 1, 1, 1, 1, 1])].map (toItem (Tryz.f64.body.getD .skip))) [(3, .pointer (some ⟨t, 0, none⟩))] w := by
  exact block_spec Tryz.func64 Tryz.mixed (stops_cons (fun σ w h => by
      obtain ⟨t_, e0, h⟩ := dK_elim h
      obtain ⟨h0_, e1, h⟩ := dK_elim h
      obtain ⟨t111_, e2, h⟩ := dB_elim h
      exact (store_Open.B6_sound  t_ h0_ t111_ w h).weaken (Sub.cons (Sub.cons (Sub.cons (Sub.nil _) e2) e1) e0)) stops_nil) (Eq.mp (store_Open.B5_eq t w   R (fun t_ h0_ t111_ w => store_Open.B6 t_ h0_ t111_ w  R)) h)
def store_Open.B4 (t : Nat) (w : World)   (R : Option Addr → World → Prop) : Prop :=
  LdB ⟨t, 15, none⟩ w fun x77 =>
  Bm (!x77) (
    Sts [.int .i64 (-1 : Int)] ⟨t, 18, none⟩ 0 w fun w1 =>
    store_Open.B5 t w1  R) (
    store_Open.B5 t w  R)
theorem store_Open.B4_eq (t : Nat) (w : World)   (R : Option Addr → World → Prop) (sB5 : Nat → World → Prop) :
    (
  LdB ⟨t, 15, none⟩ w fun x77 =>
  Bm (!x77) (
    Sts [.int .i64 (-1 : Int)] ⟨t, 18, none⟩ 0 w fun w1 =>
    sB5 t w1) (
    sB5 t w)) = kstep Tryz.prog 168 Tryz.f64.results.toList (Tryz.f64.body.getD .skip) (store_Open.RV R) (kvc Tryz.prog 168 Tryz.f64.results.toList (Tryz.f64.body.getD .skip) (store_Open.RV R) [([(0, [1, 1, 1, 1, 1, 1, 1, 1, 1, 1])], fun σ w => dK (slotOf σ 3) fun t_ => sB5 t_ w)] 2000) [(0, [1, 1, 1, 1, 1, 1, 1, 1, 1])] [(3, .pointer (some ⟨t, 0, none⟩))] w := by kernel_rfl
theorem store_Open.B4_sound {R : Option Addr → World → Prop}  (t : Nat) (w : World) (h : store_Open.B4 t w   R) :
    KW Tryz.prog 64 168 (store_Open.RV R) ([(0, [1, 1, 1, 1, 1, 1, 1, 1, 1])].map (toItem (Tryz.f64.body.getD .skip))) [(3, .pointer (some ⟨t, 0, none⟩))] w := by
  exact block_spec Tryz.func64 Tryz.mixed (stops_cons (fun σ w h => by
      obtain ⟨t_, e0, h⟩ := dK_elim h
      exact (store_Open.B5_sound  t_ w h).weaken (Sub.cons (Sub.nil _) e0)) stops_nil) (Eq.mp (store_Open.B4_eq t w   R (fun t_ w => store_Open.B5 t_ w  R)) h)
def store_Open.B2 (t m0 : Nat) (t65 : Bool) (w : World)   (R : Option Addr → World → Prop) : Prop :=
  Bm t65 (
    LdB ⟨m0, 0, none⟩ w fun x68_0 =>
    LdI .i64 ⟨m0, 1, none⟩ w fun x68_1 =>
    LdI .i64 ⟨m0, 2, none⟩ w fun x68_2 =>
    LdI .i64 ⟨m0, 3, none⟩ w fun x68_3 =>
    Sts [.bool x68_0, .int .i64 x68_1, .int .i64 x68_2, .int .i64 x68_3] ⟨t, 15, none⟩ 0 w fun w1 =>
    Sts [.int .i64 (0 : Int)] ⟨t, 19, none⟩ 0 w1 fun w2 =>
    store_Open.B4 t w2  R) (
    store_Open.B4 t w  R)
theorem store_Open.B2_eq (t m0 : Nat) (t65 : Bool) (w : World)   (R : Option Addr → World → Prop) (sB4 : Nat → World → Prop) :
    (
  Bm t65 (
    LdB ⟨m0, 0, none⟩ w fun x68_0 =>
    LdI .i64 ⟨m0, 1, none⟩ w fun x68_1 =>
    LdI .i64 ⟨m0, 2, none⟩ w fun x68_2 =>
    LdI .i64 ⟨m0, 3, none⟩ w fun x68_3 =>
    Sts [.bool x68_0, .int .i64 x68_1, .int .i64 x68_2, .int .i64 x68_3] ⟨t, 15, none⟩ 0 w fun w1 =>
    Sts [.int .i64 (0 : Int)] ⟨t, 19, none⟩ 0 w1 fun w2 =>
    sB4 t w2) (
    sB4 t w)) = kstep Tryz.prog 168 Tryz.f64.results.toList (Tryz.f64.body.getD .skip) (store_Open.RV R) (kvc Tryz.prog 168 Tryz.f64.results.toList (Tryz.f64.body.getD .skip) (store_Open.RV R) [([(0, [1, 1, 1, 1, 1, 1, 1, 1, 1])], fun σ w => dK (slotOf σ 3) fun t_ => sB4 t_ w)] 2000) [(0, [1, 1, 1, 1, 1, 1, 1, 1, 0, 1]), (0, [1, 1, 1, 1, 1, 1, 1, 1, 1])] [(3, .pointer (some ⟨t, 0, none⟩)), (8, .pointer (some ⟨m0, 0, none⟩)), (65, .bool t65)] w := by kernel_rfl
theorem store_Open.B2_sound {R : Option Addr → World → Prop}  (t m0 : Nat) (t65 : Bool) (w : World) (h : store_Open.B2 t m0 t65 w   R) :
    KW Tryz.prog 64 168 (store_Open.RV R) ([(0, [1, 1, 1, 1, 1, 1, 1, 1, 0, 1]), (0, [1, 1, 1, 1, 1, 1, 1, 1, 1])].map (toItem (Tryz.f64.body.getD .skip))) [(3, .pointer (some ⟨t, 0, none⟩)), (8, .pointer (some ⟨m0, 0, none⟩)), (65, .bool t65)] w := by
  exact block_spec Tryz.func64 Tryz.mixed (stops_cons (fun σ w h => by
      obtain ⟨t_, e0, h⟩ := dK_elim h
      exact (store_Open.B4_sound  t_ w h).weaken (Sub.cons (Sub.nil _) e0)) stops_nil) (Eq.mp (store_Open.B2_eq t m0 t65 w   R (fun t_ w => store_Open.B4 t_ w  R)) h)
def store_Open.L1b (t : Nat) (b : Int) (w : World)  (N1 : Nat → Int → World → Prop) (R : Option Addr → World → Prop) : Prop :=
  Bm (decide (b < (14 : Int))) (
    store_Store_read.Call (some ⟨t, 0, none⟩) b w fun r23 w1 =>
    Bm (decide (b < (4 : Int))) (
      store_Open.B1 t b r23 true w1 N1 R) (
      store_Open.B1 t b r23 (decide (b ≥ (8 : Int))) w1 N1 R)) (
    store_Store_read.Call (some ⟨t, 0, none⟩) (0 : Int) w fun r38 w2 =>
    store_Store_read.Call (some ⟨t, 0, none⟩) (1 : Int) w2 fun r40 w3 =>
    store_decMeta.Call r38 w3 fun r42_0 r42_1 r42_2 r42_3 w4 =>
    New (.cells #[.bool false, .int .i64 (0 : Int), .int .i64 (0 : Int), .int .i64 (0 : Int)] 180) w4 fun m0_ w5 =>
    Sts [.bool r42_0, .int .i64 r42_1, .int .i64 r42_2, .int .i64 r42_3] ⟨m0_, 0, none⟩ 0 w5 fun w6 =>
    store_decMeta.Call r40 w6 fun r44_0 r44_1 r44_2 r44_3 w7 =>
    New (.cells #[.bool false, .int .i64 (0 : Int), .int .i64 (0 : Int), .int .i64 (0 : Int)] 180) w7 fun m1_ w8 =>
    Sts [.bool r44_0, .int .i64 r44_1, .int .i64 r44_2, .int .i64 r44_3] ⟨m1_, 0, none⟩ 0 w8 fun w9 =>
    LdB ⟨m1_, 0, none⟩ w9 fun x47_0 =>
    LdI .i64 ⟨m1_, 1, none⟩ w9 fun x47_1 =>
    LdI .i64 ⟨m1_, 2, none⟩ w9 fun x47_2 =>
    LdI .i64 ⟨m1_, 3, none⟩ w9 fun x47_3 =>
    Sts [.bool x47_0, .int .i64 x47_1, .int .i64 x47_2, .int .i64 x47_3] ⟨t, 15, none⟩ 0 w9 fun w10 =>
    Sts [.int .i64 (1 : Int)] ⟨t, 19, none⟩ 0 w10 fun w11 =>
    LdB ⟨m0_, 0, none⟩ w11 fun x53 =>
    Bm x53 (
      LdB ⟨m1_, 0, none⟩ w11 fun x56 =>
      Bm (!x56) (
        store_Open.B2 t m0_ true w11  R) (
        LdI .i64 ⟨m0_, 1, none⟩ w11 fun x60 =>
        LdI .i64 ⟨m1_, 1, none⟩ w11 fun x62 =>
        store_Open.B2 t m0_ (decide (x60 > x62)) w11  R)) (
      store_Open.B2 t m0_ false w11  R))
theorem store_Open.L1b_eq (t : Nat) (b : Int) (w : World)  (N1 : Nat → Int → World → Prop) (R : Option Addr → World → Prop) (sB1 : Nat → Int → ByteArray → Bool → World → Prop) (sB2 : Nat → Nat → Bool → World → Prop) :
    (
  Bm (decide (b < (14 : Int))) (
    store_Store_read.Call (some ⟨t, 0, none⟩) b w fun r23 w1 =>
    Bm (decide (b < (4 : Int))) (
      sB1 t b r23 true w1) (
      sB1 t b r23 (decide (b ≥ (8 : Int))) w1)) (
    store_Store_read.Call (some ⟨t, 0, none⟩) (0 : Int) w fun r38 w2 =>
    store_Store_read.Call (some ⟨t, 0, none⟩) (1 : Int) w2 fun r40 w3 =>
    store_decMeta.Call r38 w3 fun r42_0 r42_1 r42_2 r42_3 w4 =>
    New (.cells #[.bool false, .int .i64 (0 : Int), .int .i64 (0 : Int), .int .i64 (0 : Int)] 180) w4 fun m0_ w5 =>
    Sts [.bool r42_0, .int .i64 r42_1, .int .i64 r42_2, .int .i64 r42_3] ⟨m0_, 0, none⟩ 0 w5 fun w6 =>
    store_decMeta.Call r40 w6 fun r44_0 r44_1 r44_2 r44_3 w7 =>
    New (.cells #[.bool false, .int .i64 (0 : Int), .int .i64 (0 : Int), .int .i64 (0 : Int)] 180) w7 fun m1_ w8 =>
    Sts [.bool r44_0, .int .i64 r44_1, .int .i64 r44_2, .int .i64 r44_3] ⟨m1_, 0, none⟩ 0 w8 fun w9 =>
    LdB ⟨m1_, 0, none⟩ w9 fun x47_0 =>
    LdI .i64 ⟨m1_, 1, none⟩ w9 fun x47_1 =>
    LdI .i64 ⟨m1_, 2, none⟩ w9 fun x47_2 =>
    LdI .i64 ⟨m1_, 3, none⟩ w9 fun x47_3 =>
    Sts [.bool x47_0, .int .i64 x47_1, .int .i64 x47_2, .int .i64 x47_3] ⟨t, 15, none⟩ 0 w9 fun w10 =>
    Sts [.int .i64 (1 : Int)] ⟨t, 19, none⟩ 0 w10 fun w11 =>
    LdB ⟨m0_, 0, none⟩ w11 fun x53 =>
    Bm x53 (
      LdB ⟨m1_, 0, none⟩ w11 fun x56 =>
      Bm (!x56) (
        sB2 t m0_ true w11) (
        LdI .i64 ⟨m0_, 1, none⟩ w11 fun x60 =>
        LdI .i64 ⟨m1_, 1, none⟩ w11 fun x62 =>
        sB2 t m0_ (decide (x60 > x62)) w11)) (
      sB2 t m0_ false w11))) = kstep Tryz.prog 168 Tryz.f64.results.toList (Tryz.f64.body.getD .skip) (store_Open.RV R) (kvc Tryz.prog 168 Tryz.f64.results.toList (Tryz.f64.body.getD .skip) (store_Open.RV R) [([(0, [1, 1, 0, 1, 0, 0, 1, 0, 0, 1, 1]), (1, [1]), (0, [1, 1, 0, 1, 0, 0, 1, 1]), (2, [1, 1, 0, 1, 0, 0]), (1, [0]), (0, [1, 1, 1])], fun σ w => dK (slotOf σ 3) fun t_ => dI .i64 (slotOf σ 4) fun b_ => dS (slotOf σ 5) fun x_ => dB (slotOf σ 29) fun t29_ => sB1 t_ b_ x_ t29_ w),
    ([(0, [1, 1, 1, 1, 1, 1, 1, 1, 0, 1]), (0, [1, 1, 1, 1, 1, 1, 1, 1, 1])], fun σ w => dK (slotOf σ 3) fun t_ => dK (slotOf σ 8) fun m0_ => dB (slotOf σ 65) fun t65_ => sB2 t_ m0_ t65_ w)] 2000) [(0, [1, 1, 0, 1, 0, 0]), (2, [1, 1, 0, 1, 0, 0]), (1, [0]), (0, [1, 1, 1])] [(3, .pointer (some ⟨t, 0, none⟩)), (4, .int .i64 b)] w := by kernel_rfl
theorem store_Open.L1b_sound {R : Option Addr → World → Prop} {N1 : Nat → Int → World → Prop} (hN1 : ∀ t b w, N1 t b w → KW Tryz.prog 64 168 (store_Open.RV R) ([(0, [1, 1, 0, 1, 0, 0]), (2, [1, 1, 0, 1, 0, 0]), (1, [0]), (0, [1, 1, 1])].map (toItem (Tryz.f64.body.getD .skip))) [(3, .pointer (some ⟨t, 0, none⟩)), (4, .int .i64 b)] w) (t : Nat) (b : Int) (w : World) (h : store_Open.L1b t b w  N1 R) :
    KW Tryz.prog 64 168 (store_Open.RV R) ([(0, [1, 1, 0, 1, 0, 0]), (2, [1, 1, 0, 1, 0, 0]), (1, [0]), (0, [1, 1, 1])].map (toItem (Tryz.f64.body.getD .skip))) [(3, .pointer (some ⟨t, 0, none⟩)), (4, .int .i64 b)] w := by
  exact block_spec Tryz.func64 Tryz.mixed (stops_cons (fun σ w h => by
      obtain ⟨t_, e0, h⟩ := dK_elim h
      obtain ⟨b_, e1, h⟩ := dI_elim h
      obtain ⟨x_, e2, h⟩ := dS_elim h
      obtain ⟨t29_, e3, h⟩ := dB_elim h
      exact (store_Open.B1_sound hN1 t_ b_ x_ t29_ w h).weaken (Sub.cons (Sub.cons (Sub.cons (Sub.cons (Sub.nil _) e3) e2) e1) e0)) (stops_cons (fun σ w h => by
      obtain ⟨t_, e0, h⟩ := dK_elim h
      obtain ⟨m0_, e1, h⟩ := dK_elim h
      obtain ⟨t65_, e2, h⟩ := dB_elim h
      exact (store_Open.B2_sound  t_ m0_ t65_ w h).weaken (Sub.cons (Sub.cons (Sub.cons (Sub.nil _) e2) e1) e0)) stops_nil)) (Eq.mp (store_Open.L1b_eq t b w  N1 R (fun t_ b_ x_ t29_ w => store_Open.B1 t_ b_ x_ t29_ w N1 R) (fun t_ m0_ t65_ w => store_Open.B2 t_ m0_ t65_ w  R)) h)
def store_Open.L1 (t : Nat) (b : Int) (w : World)  (R : Option Addr → World → Prop) : Prop :=
  ∃ (I : Nat → Nat → Int → World → Prop) (m : Nat), I m t b w ∧ ∀ m t b w, I m t b w → store_Open.L1b t b w  (fun t' b' w' => ∃ m', m' < m ∧ I m' t' b' w') R
theorem store_Open.L1_sound {R : Option Addr → World → Prop}  (t : Nat) (b : Int) (w : World) (h : store_Open.L1 t b w  R) :
    KW Tryz.prog 64 168 (store_Open.RV R) ([(0, [1, 1, 0, 1, 0, 0]), (2, [1, 1, 0, 1, 0, 0]), (1, [0]), (0, [1, 1, 1])].map (toItem (Tryz.f64.body.getD .skip))) [(3, .pointer (some ⟨t, 0, none⟩)), (4, .int .i64 b)] w := by
  obtain ⟨I, m, hBase, hr⟩ := h
  refine KW.loop (fun m σ w => ∃ (t : Nat) (b : Int), σ = [(3, .pointer (some ⟨t, 0, none⟩)), (4, .int .i64 b)] ∧ I m t b w) ?_ m _ w ⟨t, b, rfl, hBase⟩
  rintro m ih σ w ⟨t, b, rfl, hI⟩
  exact store_Open.L1b_sound  (N1 := fun t' b' w' => ∃ m', m' < m ∧ I m' t' b' w') (fun t' b' w' hx => by obtain ⟨m', hlt, hI'⟩ := hx; exact ih m' hlt _ w' ⟨t', b', rfl, hI'⟩) t b w (hr m t b w hI)
def store_Open.B0 (d : Option Addr) (w : World)   (R : Option Addr → World → Prop) : Prop :=
  New (.cells #[.pointer d, .int .u8 (0 : Int), .int .u8 (0 : Int), .int .u8 (0 : Int), .int .u8 (0 : Int), .int .u8 (0 : Int), .int .u8 (0 : Int), .int .u8 (0 : Int), .int .u8 (0 : Int), .int .u8 (0 : Int), .int .u8 (0 : Int), .int .u8 (0 : Int), .int .u8 (0 : Int), .int .u8 (0 : Int), .int .u8 (0 : Int), .bool false, .int .i64 (0 : Int), .int .i64 (0 : Int), .int .i64 (0 : Int), .int .i64 (0 : Int), .bool false, .int .i64 (0 : Int), .int .i64 (0 : Int), .int .i64 (0 : Int), .int .i64 (0 : Int), .int .i64 (0 : Int), .int .i64 (0 : Int), .string (ByteArray.mk #[]), .bool false, .bool false, .bool false, .bool false, .bool false, .bool false, .int .i64 (0 : Int), .int .i64 (0 : Int), .string (ByteArray.mk #[]), .int .i64 (0 : Int), .int .i64 (0 : Int), .string (ByteArray.mk #[]), .int .i64 (0 : Int), .int .i64 (0 : Int), .string (ByteArray.mk #[]), .int .i64 (0 : Int), .int .i64 (0 : Int), .string (ByteArray.mk #[]), .int .i64 (0 : Int), .int .i64 (0 : Int), .string (ByteArray.mk #[]), .int .i64 (0 : Int), .int .i64 (0 : Int), .string (ByteArray.mk #[])] 188) w fun b16 w1 =>
  store_Open.L1 b16 (0 : Int) w1  R
theorem store_Open.B0_eq (d : Option Addr) (w : World)   (R : Option Addr → World → Prop) (sL1 : Nat → Int → World → Prop) :
    (
  New (.cells #[.pointer d, .int .u8 (0 : Int), .int .u8 (0 : Int), .int .u8 (0 : Int), .int .u8 (0 : Int), .int .u8 (0 : Int), .int .u8 (0 : Int), .int .u8 (0 : Int), .int .u8 (0 : Int), .int .u8 (0 : Int), .int .u8 (0 : Int), .int .u8 (0 : Int), .int .u8 (0 : Int), .int .u8 (0 : Int), .int .u8 (0 : Int), .bool false, .int .i64 (0 : Int), .int .i64 (0 : Int), .int .i64 (0 : Int), .int .i64 (0 : Int), .bool false, .int .i64 (0 : Int), .int .i64 (0 : Int), .int .i64 (0 : Int), .int .i64 (0 : Int), .int .i64 (0 : Int), .int .i64 (0 : Int), .string (ByteArray.mk #[]), .bool false, .bool false, .bool false, .bool false, .bool false, .bool false, .int .i64 (0 : Int), .int .i64 (0 : Int), .string (ByteArray.mk #[]), .int .i64 (0 : Int), .int .i64 (0 : Int), .string (ByteArray.mk #[]), .int .i64 (0 : Int), .int .i64 (0 : Int), .string (ByteArray.mk #[]), .int .i64 (0 : Int), .int .i64 (0 : Int), .string (ByteArray.mk #[]), .int .i64 (0 : Int), .int .i64 (0 : Int), .string (ByteArray.mk #[]), .int .i64 (0 : Int), .int .i64 (0 : Int), .string (ByteArray.mk #[])] 188) w fun b16 w1 =>
  sL1 b16 (0 : Int) w1) = kstep Tryz.prog 168 Tryz.f64.results.toList (Tryz.f64.body.getD .skip) (store_Open.RV R) (kvc Tryz.prog 168 Tryz.f64.results.toList (Tryz.f64.body.getD .skip) (store_Open.RV R) [([(0, [1, 1, 0, 1, 0, 0]), (2, [1, 1, 0, 1, 0, 0]), (1, [0]), (0, [1, 1, 1])], fun σ w => dK (slotOf σ 3) fun t_ => dI .i64 (slotOf σ 4) fun b_ => sL1 t_ b_ w)] 2000) [(0, [])] [(0, .pointer d)] w := by kernel_rfl
theorem store_Open.B0_sound {R : Option Addr → World → Prop}  (d : Option Addr) (w : World) (h : store_Open.B0 d w   R) :
    KW Tryz.prog 64 168 (store_Open.RV R) ([(0, [])].map (toItem (Tryz.f64.body.getD .skip))) [(0, .pointer d)] w := by
  exact block_spec Tryz.func64 Tryz.mixed (stops_cons (fun σ w h => by
      obtain ⟨t_, e0, h⟩ := dK_elim h
      obtain ⟨b_, e1, h⟩ := dI_elim h
      exact (store_Open.L1_sound  t_ b_ w h).weaken (Sub.cons (Sub.cons (Sub.nil _) e1) e0)) stops_nil) (Eq.mp (store_Open.B0_eq d w   R (fun t_ b_ w => store_Open.L1 t_ b_ w  R)) h)
theorem store_Open.sound (d : Option Addr) (w : World) (R : Option Addr → World → Prop) (h : store_Open.B0 d w R) : store_Open.Call d w R := by
  have hc := calls_of_block (args := #[.pointer d]) Tryz.func64 (body := (Tryz.f64.body.getD .skip)) (by kernel_rfl) (by kernel_rfl) (args_slot _) (store_Open.B0_sound d w h)
  exact hc.mono fun e w' he => by
    obtain ⟨v, rfl, hv⟩ := he
    exact store_Open.RV_elim hv
end Go.Proofs.Qxb6500430aGreat
