import Derived.Test.Qxb6500429aSig
set_option maxRecDepth 100000
set_option linter.unusedVariables false
open Go.Vc
namespace Go.Proofs.Qxb6500429a
def kvm_KV_Restore.B2 (k : Option Addr) (s : ByteArray) (t : Nat) (p i : Int) (t63 : Bool) (w : World) (N1 : Option Addr → ByteArray → Nat → Int → Int → World → Prop)  (R : Int → World → Prop) : Prop :=
  Bm t63 (
    R (15 : Int) w) (
    N1 k s t p (IntKind.i64.wrap (i + (1 : Int))) w)
theorem kvm_KV_Restore.B2_eq (k : Option Addr) (s : ByteArray) (t : Nat) (p i : Int) (t63 : Bool) (w : World) (N1 : Option Addr → ByteArray → Nat → Int → Int → World → Prop)  (R : Int → World → Prop)  :
    (
  Bm t63 (
    R (15 : Int) w) (
    N1 k s t p (IntKind.i64.wrap (i + (1 : Int))) w)) = kstep Try.prog 145 Try.f30.results.toList (Try.f30.body.getD .skip) (kvm_KV_Restore.RV R) (kvc Try.prog 145 Try.f30.results.toList (Try.f30.body.getD .skip) (kvm_KV_Restore.RV R) [([(0, [1, 1, 1, 1, 1, 0, 1, 0, 0]), (2, [1, 1, 1, 1, 1, 0, 1, 0, 0]), (1, [0]), (0, [1, 1, 1, 1, 1, 1])], fun σ w => dP (slotOf σ 0) fun k_ => dS (slotOf σ 1) fun s_ => dK (slotOf σ 5) fun t_ => dI .i64 (slotOf σ 6) fun p_ => dI .i64 (slotOf σ 7) fun i_ => N1 k_ s_ t_ p_ i_ w)] 2000) [(0, [1, 1, 1, 1, 1, 0, 1, 0, 0, 1, 0, 0, 1, 1, 1]), (1, [1]), (0, [1, 1, 1, 1, 1, 0, 1, 0, 0, 1, 1]), (2, [1, 1, 1, 1, 1, 0, 1, 0, 0]), (1, [0]), (0, [1, 1, 1, 1, 1, 1])] [(0, .pointer k), (1, .string s), (5, .pointer (some ⟨t, 0, none⟩)), (6, .int .i64 p), (7, .int .i64 i), (63, .bool t63)] w := by kernel_rfl
theorem kvm_KV_Restore.B2_sound {R : Int → World → Prop} {N1 : Option Addr → ByteArray → Nat → Int → Int → World → Prop} (hN1 : ∀ k s t p i w, N1 k s t p i w → KW Try.prog 30 145 (kvm_KV_Restore.RV R) ([(0, [1, 1, 1, 1, 1, 0, 1, 0, 0]), (2, [1, 1, 1, 1, 1, 0, 1, 0, 0]), (1, [0]), (0, [1, 1, 1, 1, 1, 1])].map (toItem (Try.f30.body.getD .skip))) [(0, .pointer k), (1, .string s), (5, .pointer (some ⟨t, 0, none⟩)), (6, .int .i64 p), (7, .int .i64 i)] w) (k : Option Addr) (s : ByteArray) (t : Nat) (p i : Int) (t63 : Bool) (w : World) (h : kvm_KV_Restore.B2 k s t p i t63 w N1  R) :
    KW Try.prog 30 145 (kvm_KV_Restore.RV R) ([(0, [1, 1, 1, 1, 1, 0, 1, 0, 0, 1, 0, 0, 1, 1, 1]), (1, [1]), (0, [1, 1, 1, 1, 1, 0, 1, 0, 0, 1, 1]), (2, [1, 1, 1, 1, 1, 0, 1, 0, 0]), (1, [0]), (0, [1, 1, 1, 1, 1, 1])].map (toItem (Try.f30.body.getD .skip))) [(0, .pointer k), (1, .string s), (5, .pointer (some ⟨t, 0, none⟩)), (6, .int .i64 p), (7, .int .i64 i), (63, .bool t63)] w := by
  exact block_spec Try.func30 Try.mixed (stops_cons (fun σ w h => by
      obtain ⟨k_, e0, h⟩ := dP_elim h
      obtain ⟨s_, e1, h⟩ := dS_elim h
      obtain ⟨t_, e2, h⟩ := dK_elim h
      obtain ⟨p_, e3, h⟩ := dI_elim h
      obtain ⟨i_, e4, h⟩ := dI_elim h
      exact (hN1 k_ s_ t_ p_ i_ w h).weaken (Sub.cons (Sub.cons (Sub.cons (Sub.cons (Sub.cons (Sub.nil _) e4) e3) e2) e1) e0)) stops_nil) (Eq.mp (kvm_KV_Restore.B2_eq k s t p i t63 w N1  R ) h)
def kvm_KV_Restore.B3 (k : Option Addr) (s : ByteArray) (t : Nat) (p c : Int) (t93 : Bool) (w : World) (N2 : Option Addr → ByteArray → Nat → Int → Int → World → Prop)  (R : Int → World → Prop) : Prop :=
  Bm t93 (
    R (15 : Int) w) (
    (0 ≤ (IntKind.i64.wrap (p + (8 : Int))) ∧ (IntKind.i64.wrap (p + (8 : Int))) < ((s.size : Nat) : Int)) ∧
    (0 ≤ c ∧ c < ((3 : Nat) : Int)) ∧
    Sts [.int .i64 (IntKind.i64.wrap (byteAt s (IntKind.i64.wrap (p + (8 : Int)))))] (Addr.add ⟨t, 12, none⟩ (c.toNat * 2)) 0 w fun w1 =>
    kvm_take.Call s (IntKind.i64.wrap (p + (9 : Int))) (0 : Int) (3 : Int) w1 fun r108_0 r108_1 w2 =>
    (0 ≤ c ∧ c < ((3 : Nat) : Int)) ∧
    Sts [.string r108_0] ((Addr.add ⟨t, 12, none⟩ (c.toNat * 2)).add 1) 0 w2 fun w3 =>
    Bm (decide (r108_1 < (0 : Int))) (
      R (15 : Int) w3) (
      N2 k s t r108_1 (IntKind.i64.wrap (c + (1 : Int))) w3))
theorem kvm_KV_Restore.B3_eq (k : Option Addr) (s : ByteArray) (t : Nat) (p c : Int) (t93 : Bool) (w : World) (N2 : Option Addr → ByteArray → Nat → Int → Int → World → Prop)  (R : Int → World → Prop)  :
    (
  Bm t93 (
    R (15 : Int) w) (
    (0 ≤ (IntKind.i64.wrap (p + (8 : Int))) ∧ (IntKind.i64.wrap (p + (8 : Int))) < ((s.size : Nat) : Int)) ∧
    (0 ≤ c ∧ c < ((3 : Nat) : Int)) ∧
    Sts [.int .i64 (IntKind.i64.wrap (byteAt s (IntKind.i64.wrap (p + (8 : Int)))))] (Addr.add ⟨t, 12, none⟩ (c.toNat * 2)) 0 w fun w1 =>
    kvm_take.Call s (IntKind.i64.wrap (p + (9 : Int))) (0 : Int) (3 : Int) w1 fun r108_0 r108_1 w2 =>
    (0 ≤ c ∧ c < ((3 : Nat) : Int)) ∧
    Sts [.string r108_0] ((Addr.add ⟨t, 12, none⟩ (c.toNat * 2)).add 1) 0 w2 fun w3 =>
    Bm (decide (r108_1 < (0 : Int))) (
      R (15 : Int) w3) (
      N2 k s t r108_1 (IntKind.i64.wrap (c + (1 : Int))) w3))) = kstep Try.prog 145 Try.f30.results.toList (Try.f30.body.getD .skip) (kvm_KV_Restore.RV R) (kvc Try.prog 145 Try.f30.results.toList (Try.f30.body.getD .skip) (kvm_KV_Restore.RV R) [([(0, [1, 1, 1, 1, 1, 1, 0, 1, 0, 0]), (2, [1, 1, 1, 1, 1, 1, 0, 1, 0, 0]), (1, [2]), (0, [1, 1, 1, 1, 1, 1, 1])], fun σ w => dP (slotOf σ 0) fun k_ => dS (slotOf σ 1) fun s_ => dK (slotOf σ 5) fun t_ => dI .i64 (slotOf σ 6) fun p_ => dI .i64 (slotOf σ 8) fun c_ => N2 k_ s_ t_ p_ c_ w)] 2000) [(0, [1, 1, 1, 1, 1, 1, 0, 1, 0, 0, 1, 0, 0, 1, 0, 1]), (0, [1, 1, 1, 1, 1, 1, 0, 1, 0, 0, 1, 0, 0, 1, 1]), (1, [3]), (0, [1, 1, 1, 1, 1, 1, 0, 1, 0, 0, 1, 1]), (2, [1, 1, 1, 1, 1, 1, 0, 1, 0, 0]), (1, [2]), (0, [1, 1, 1, 1, 1, 1, 1])] [(0, .pointer k), (1, .string s), (5, .pointer (some ⟨t, 0, none⟩)), (6, .int .i64 p), (8, .int .i64 c), (93, .bool t93)] w := by kernel_rfl
theorem kvm_KV_Restore.B3_sound {R : Int → World → Prop} {N2 : Option Addr → ByteArray → Nat → Int → Int → World → Prop} (hN2 : ∀ k s t p c w, N2 k s t p c w → KW Try.prog 30 145 (kvm_KV_Restore.RV R) ([(0, [1, 1, 1, 1, 1, 1, 0, 1, 0, 0]), (2, [1, 1, 1, 1, 1, 1, 0, 1, 0, 0]), (1, [2]), (0, [1, 1, 1, 1, 1, 1, 1])].map (toItem (Try.f30.body.getD .skip))) [(0, .pointer k), (1, .string s), (5, .pointer (some ⟨t, 0, none⟩)), (6, .int .i64 p), (8, .int .i64 c)] w) (k : Option Addr) (s : ByteArray) (t : Nat) (p c : Int) (t93 : Bool) (w : World) (h : kvm_KV_Restore.B3 k s t p c t93 w N2  R) :
    KW Try.prog 30 145 (kvm_KV_Restore.RV R) ([(0, [1, 1, 1, 1, 1, 1, 0, 1, 0, 0, 1, 0, 0, 1, 0, 1]), (0, [1, 1, 1, 1, 1, 1, 0, 1, 0, 0, 1, 0, 0, 1, 1]), (1, [3]), (0, [1, 1, 1, 1, 1, 1, 0, 1, 0, 0, 1, 1]), (2, [1, 1, 1, 1, 1, 1, 0, 1, 0, 0]), (1, [2]), (0, [1, 1, 1, 1, 1, 1, 1])].map (toItem (Try.f30.body.getD .skip))) [(0, .pointer k), (1, .string s), (5, .pointer (some ⟨t, 0, none⟩)), (6, .int .i64 p), (8, .int .i64 c), (93, .bool t93)] w := by
  exact block_spec Try.func30 Try.mixed (stops_cons (fun σ w h => by
      obtain ⟨k_, e0, h⟩ := dP_elim h
      obtain ⟨s_, e1, h⟩ := dS_elim h
      obtain ⟨t_, e2, h⟩ := dK_elim h
      obtain ⟨p_, e3, h⟩ := dI_elim h
      obtain ⟨c_, e4, h⟩ := dI_elim h
      exact (hN2 k_ s_ t_ p_ c_ w h).weaken (Sub.cons (Sub.cons (Sub.cons (Sub.cons (Sub.cons (Sub.nil _) e4) e3) e2) e1) e0)) stops_nil) (Eq.mp (kvm_KV_Restore.B3_eq k s t p c t93 w N2  R ) h)
def kvm_KV_Restore.L2b (k : Option Addr) (s : ByteArray) (t : Nat) (p c : Int) (w : World)  (N2 : Option Addr → ByteArray → Nat → Int → Int → World → Prop) (R : Int → World → Prop) : Prop :=
  Bm (decide (c < (3 : Int))) (
    api_GetU64.Call s p w fun r71 w1 =>
    (0 ≤ c ∧ c < ((3 : Nat) : Int)) ∧
    Sts [.int .i64 r71] (Addr.add ⟨t, 9, none⟩ (c.toNat * 1)) 0 w1 fun w2 =>
    (0 ≤ c ∧ c < ((3 : Nat) : Int)) ∧
    LdI .i64 (Addr.add ⟨t, 9, none⟩ (c.toNat * 1)) w2 fun x77 =>
    Bm (decide (x77 < (0 : Int))) (
      kvm_KV_Restore.B3 k s t p c true w2 N2 R) (
      Bm (decide ((IntKind.i64.wrap (p + (8 : Int))) ≥ ((s.size : Nat) : Int))) (
        kvm_KV_Restore.B3 k s t p c true w2 N2 R) (
        (0 ≤ (IntKind.i64.wrap (p + (8 : Int))) ∧ (IntKind.i64.wrap (p + (8 : Int))) < ((s.size : Nat) : Int)) ∧
        kvm_KV_Restore.B3 k s t p c (decide ((IntKind.i64.wrap (byteAt s (IntKind.i64.wrap (p + (8 : Int))))) ≥ (16 : Int))) w2 N2 R))) (
    Bm (p != ((s.size : Nat) : Int)) (
      R (15 : Int) w) (
      LdI .i64 ⟨t, 0, none⟩ w.drew fun x126 =>
      LdS ⟨t, 1, none⟩ w.drew fun x128_0 =>
      LdS ⟨t, 2, none⟩ w.drew fun x128_1 =>
      LdS ⟨t, 3, none⟩ w.drew fun x128_2 =>
      LdS ⟨t, 4, none⟩ w.drew fun x128_3 =>
      LdS ⟨t, 5, none⟩ w.drew fun x130_0 =>
      LdS ⟨t, 6, none⟩ w.drew fun x130_1 =>
      LdS ⟨t, 7, none⟩ w.drew fun x130_2 =>
      LdS ⟨t, 8, none⟩ w.drew fun x130_3 =>
      LdI .i64 ⟨t, 9, none⟩ w.drew fun x132_0 =>
      LdI .i64 ⟨t, 10, none⟩ w.drew fun x132_1 =>
      LdI .i64 ⟨t, 11, none⟩ w.drew fun x132_2 =>
      LdI .i64 ⟨t, 12, none⟩ w.drew fun x134_0 =>
      LdS ⟨t, 13, none⟩ w.drew fun x134_1 =>
      LdI .i64 ⟨t, 14, none⟩ w.drew fun x134_2 =>
      LdS ⟨t, 15, none⟩ w.drew fun x134_3 =>
      LdI .i64 ⟨t, 16, none⟩ w.drew fun x134_4 =>
      LdS ⟨t, 17, none⟩ w.drew fun x134_5 =>
      Pn k fun a =>
      Sts [.int .i64 x126] a 0 w.drew fun w3 =>
      w3.cell? ⟨t, 12, none⟩ = some (.int .i64 x134_0) ∧
      w3.cell? ⟨t, 13, none⟩ = some (.string x134_1) ∧
      w3.cell? ⟨t, 14, none⟩ = some (.int .i64 x134_2) ∧
      w3.cell? ⟨t, 15, none⟩ = some (.string x134_3) ∧
      w3.cell? ⟨t, 16, none⟩ = some (.int .i64 x134_4) ∧
      w3.cell? ⟨t, 17, none⟩ = some (.string x134_5) ∧
      w3.cell? ⟨t, 9, none⟩ = some (.int .i64 x132_0) ∧
      w3.cell? ⟨t, 10, none⟩ = some (.int .i64 x132_1) ∧
      w3.cell? ⟨t, 11, none⟩ = some (.int .i64 x132_2) ∧
      w3.cell? ⟨t, 5, none⟩ = some (.string x130_0) ∧
      w3.cell? ⟨t, 6, none⟩ = some (.string x130_1) ∧
      w3.cell? ⟨t, 7, none⟩ = some (.string x130_2) ∧
      w3.cell? ⟨t, 8, none⟩ = some (.string x130_3) ∧
      w3.cell? ⟨t, 1, none⟩ = some (.string x128_0) ∧
      w3.cell? ⟨t, 2, none⟩ = some (.string x128_1) ∧
      w3.cell? ⟨t, 3, none⟩ = some (.string x128_2) ∧
      w3.cell? ⟨t, 4, none⟩ = some (.string x128_3) ∧
      Pn k fun a_1 =>
      Sts [.string x128_0, .string x128_1, .string x128_2, .string x128_3] (a_1.add 1) 0 w3 fun w4 =>
      w4.cell? ⟨t, 12, none⟩ = some (.int .i64 x134_0) ∧
      w4.cell? ⟨t, 13, none⟩ = some (.string x134_1) ∧
      w4.cell? ⟨t, 14, none⟩ = some (.int .i64 x134_2) ∧
      w4.cell? ⟨t, 15, none⟩ = some (.string x134_3) ∧
      w4.cell? ⟨t, 16, none⟩ = some (.int .i64 x134_4) ∧
      w4.cell? ⟨t, 17, none⟩ = some (.string x134_5) ∧
      w4.cell? ⟨t, 9, none⟩ = some (.int .i64 x132_0) ∧
      w4.cell? ⟨t, 10, none⟩ = some (.int .i64 x132_1) ∧
      w4.cell? ⟨t, 11, none⟩ = some (.int .i64 x132_2) ∧
      w4.cell? ⟨t, 5, none⟩ = some (.string x130_0) ∧
      w4.cell? ⟨t, 6, none⟩ = some (.string x130_1) ∧
      w4.cell? ⟨t, 7, none⟩ = some (.string x130_2) ∧
      w4.cell? ⟨t, 8, none⟩ = some (.string x130_3) ∧
      Pn k fun a_2 =>
      Sts [.string x130_0, .string x130_1, .string x130_2, .string x130_3] (a_2.add 5) 0 w4 fun w5 =>
      w5.cell? ⟨t, 12, none⟩ = some (.int .i64 x134_0) ∧
      w5.cell? ⟨t, 13, none⟩ = some (.string x134_1) ∧
      w5.cell? ⟨t, 14, none⟩ = some (.int .i64 x134_2) ∧
      w5.cell? ⟨t, 15, none⟩ = some (.string x134_3) ∧
      w5.cell? ⟨t, 16, none⟩ = some (.int .i64 x134_4) ∧
      w5.cell? ⟨t, 17, none⟩ = some (.string x134_5) ∧
      w5.cell? ⟨t, 9, none⟩ = some (.int .i64 x132_0) ∧
      w5.cell? ⟨t, 10, none⟩ = some (.int .i64 x132_1) ∧
      w5.cell? ⟨t, 11, none⟩ = some (.int .i64 x132_2) ∧
      Pn k fun a_3 =>
      Sts [.int .i64 x132_0, .int .i64 x132_1, .int .i64 x132_2] (a_3.add 9) 0 w5 fun w6 =>
      w6.cell? ⟨t, 12, none⟩ = some (.int .i64 x134_0) ∧
      w6.cell? ⟨t, 13, none⟩ = some (.string x134_1) ∧
      w6.cell? ⟨t, 14, none⟩ = some (.int .i64 x134_2) ∧
      w6.cell? ⟨t, 15, none⟩ = some (.string x134_3) ∧
      w6.cell? ⟨t, 16, none⟩ = some (.int .i64 x134_4) ∧
      w6.cell? ⟨t, 17, none⟩ = some (.string x134_5) ∧
      Pn k fun a_4 =>
      Sts [.int .i64 x134_0, .string x134_1, .int .i64 x134_2, .string x134_3, .int .i64 x134_4, .string x134_5] (a_4.add 12) 0 w6 fun w7 =>
      R (0 : Int) w7))
theorem kvm_KV_Restore.L2b_eq (k : Option Addr) (s : ByteArray) (t : Nat) (p c : Int) (w : World)  (N2 : Option Addr → ByteArray → Nat → Int → Int → World → Prop) (R : Int → World → Prop) (sB3 : Option Addr → ByteArray → Nat → Int → Int → Bool → World → Prop) :
    (
  Bm (decide (c < (3 : Int))) (
    api_GetU64.Call s p w fun r71 w1 =>
    (0 ≤ c ∧ c < ((3 : Nat) : Int)) ∧
    Sts [.int .i64 r71] (Addr.add ⟨t, 9, none⟩ (c.toNat * 1)) 0 w1 fun w2 =>
    (0 ≤ c ∧ c < ((3 : Nat) : Int)) ∧
    LdI .i64 (Addr.add ⟨t, 9, none⟩ (c.toNat * 1)) w2 fun x77 =>
    Bm (decide (x77 < (0 : Int))) (
      sB3 k s t p c true w2) (
      Bm (decide ((IntKind.i64.wrap (p + (8 : Int))) ≥ ((s.size : Nat) : Int))) (
        sB3 k s t p c true w2) (
        (0 ≤ (IntKind.i64.wrap (p + (8 : Int))) ∧ (IntKind.i64.wrap (p + (8 : Int))) < ((s.size : Nat) : Int)) ∧
        sB3 k s t p c (decide ((IntKind.i64.wrap (byteAt s (IntKind.i64.wrap (p + (8 : Int))))) ≥ (16 : Int))) w2))) (
    Bm (p != ((s.size : Nat) : Int)) (
      R (15 : Int) w) (
      LdI .i64 ⟨t, 0, none⟩ w.drew fun x126 =>
      LdS ⟨t, 1, none⟩ w.drew fun x128_0 =>
      LdS ⟨t, 2, none⟩ w.drew fun x128_1 =>
      LdS ⟨t, 3, none⟩ w.drew fun x128_2 =>
      LdS ⟨t, 4, none⟩ w.drew fun x128_3 =>
      LdS ⟨t, 5, none⟩ w.drew fun x130_0 =>
      LdS ⟨t, 6, none⟩ w.drew fun x130_1 =>
      LdS ⟨t, 7, none⟩ w.drew fun x130_2 =>
      LdS ⟨t, 8, none⟩ w.drew fun x130_3 =>
      LdI .i64 ⟨t, 9, none⟩ w.drew fun x132_0 =>
      LdI .i64 ⟨t, 10, none⟩ w.drew fun x132_1 =>
      LdI .i64 ⟨t, 11, none⟩ w.drew fun x132_2 =>
      LdI .i64 ⟨t, 12, none⟩ w.drew fun x134_0 =>
      LdS ⟨t, 13, none⟩ w.drew fun x134_1 =>
      LdI .i64 ⟨t, 14, none⟩ w.drew fun x134_2 =>
      LdS ⟨t, 15, none⟩ w.drew fun x134_3 =>
      LdI .i64 ⟨t, 16, none⟩ w.drew fun x134_4 =>
      LdS ⟨t, 17, none⟩ w.drew fun x134_5 =>
      Pn k fun a =>
      Sts [.int .i64 x126] a 0 w.drew fun w3 =>
      w3.cell? ⟨t, 12, none⟩ = some (.int .i64 x134_0) ∧
      w3.cell? ⟨t, 13, none⟩ = some (.string x134_1) ∧
      w3.cell? ⟨t, 14, none⟩ = some (.int .i64 x134_2) ∧
      w3.cell? ⟨t, 15, none⟩ = some (.string x134_3) ∧
      w3.cell? ⟨t, 16, none⟩ = some (.int .i64 x134_4) ∧
      w3.cell? ⟨t, 17, none⟩ = some (.string x134_5) ∧
      w3.cell? ⟨t, 9, none⟩ = some (.int .i64 x132_0) ∧
      w3.cell? ⟨t, 10, none⟩ = some (.int .i64 x132_1) ∧
      w3.cell? ⟨t, 11, none⟩ = some (.int .i64 x132_2) ∧
      w3.cell? ⟨t, 5, none⟩ = some (.string x130_0) ∧
      w3.cell? ⟨t, 6, none⟩ = some (.string x130_1) ∧
      w3.cell? ⟨t, 7, none⟩ = some (.string x130_2) ∧
      w3.cell? ⟨t, 8, none⟩ = some (.string x130_3) ∧
      w3.cell? ⟨t, 1, none⟩ = some (.string x128_0) ∧
      w3.cell? ⟨t, 2, none⟩ = some (.string x128_1) ∧
      w3.cell? ⟨t, 3, none⟩ = some (.string x128_2) ∧
      w3.cell? ⟨t, 4, none⟩ = some (.string x128_3) ∧
      Pn k fun a_1 =>
      Sts [.string x128_0, .string x128_1, .string x128_2, .string x128_3] (a_1.add 1) 0 w3 fun w4 =>
      w4.cell? ⟨t, 12, none⟩ = some (.int .i64 x134_0) ∧
      w4.cell? ⟨t, 13, none⟩ = some (.string x134_1) ∧
      w4.cell? ⟨t, 14, none⟩ = some (.int .i64 x134_2) ∧
      w4.cell? ⟨t, 15, none⟩ = some (.string x134_3) ∧
      w4.cell? ⟨t, 16, none⟩ = some (.int .i64 x134_4) ∧
      w4.cell? ⟨t, 17, none⟩ = some (.string x134_5) ∧
      w4.cell? ⟨t, 9, none⟩ = some (.int .i64 x132_0) ∧
      w4.cell? ⟨t, 10, none⟩ = some (.int .i64 x132_1) ∧
      w4.cell? ⟨t, 11, none⟩ = some (.int .i64 x132_2) ∧
      w4.cell? ⟨t, 5, none⟩ = some (.string x130_0) ∧
      w4.cell? ⟨t, 6, none⟩ = some (.string x130_1) ∧
      w4.cell? ⟨t, 7, none⟩ = some (.string x130_2) ∧
      w4.cell? ⟨t, 8, none⟩ = some (.string x130_3) ∧
      Pn k fun a_2 =>
      Sts [.string x130_0, .string x130_1, .string x130_2, .string x130_3] (a_2.add 5) 0 w4 fun w5 =>
      w5.cell? ⟨t, 12, none⟩ = some (.int .i64 x134_0) ∧
      w5.cell? ⟨t, 13, none⟩ = some (.string x134_1) ∧
      w5.cell? ⟨t, 14, none⟩ = some (.int .i64 x134_2) ∧
      w5.cell? ⟨t, 15, none⟩ = some (.string x134_3) ∧
      w5.cell? ⟨t, 16, none⟩ = some (.int .i64 x134_4) ∧
      w5.cell? ⟨t, 17, none⟩ = some (.string x134_5) ∧
      w5.cell? ⟨t, 9, none⟩ = some (.int .i64 x132_0) ∧
      w5.cell? ⟨t, 10, none⟩ = some (.int .i64 x132_1) ∧
      w5.cell? ⟨t, 11, none⟩ = some (.int .i64 x132_2) ∧
      Pn k fun a_3 =>
      Sts [.int .i64 x132_0, .int .i64 x132_1, .int .i64 x132_2] (a_3.add 9) 0 w5 fun w6 =>
      w6.cell? ⟨t, 12, none⟩ = some (.int .i64 x134_0) ∧
      w6.cell? ⟨t, 13, none⟩ = some (.string x134_1) ∧
      w6.cell? ⟨t, 14, none⟩ = some (.int .i64 x134_2) ∧
      w6.cell? ⟨t, 15, none⟩ = some (.string x134_3) ∧
      w6.cell? ⟨t, 16, none⟩ = some (.int .i64 x134_4) ∧
      w6.cell? ⟨t, 17, none⟩ = some (.string x134_5) ∧
      Pn k fun a_4 =>
      Sts [.int .i64 x134_0, .string x134_1, .int .i64 x134_2, .string x134_3, .int .i64 x134_4, .string x134_5] (a_4.add 12) 0 w6 fun w7 =>
      R (0 : Int) w7))) = kstep Try.prog 145 Try.f30.results.toList (Try.f30.body.getD .skip) (kvm_KV_Restore.RV R) (kvc Try.prog 145 Try.f30.results.toList (Try.f30.body.getD .skip) (kvm_KV_Restore.RV R) [([(0, [1, 1, 1, 1, 1, 1, 0, 1, 0, 0, 1, 0, 0, 1, 0, 1]), (0, [1, 1, 1, 1, 1, 1, 0, 1, 0, 0, 1, 0, 0, 1, 1]), (1, [3]), (0, [1, 1, 1, 1, 1, 1, 0, 1, 0, 0, 1, 1]), (2, [1, 1, 1, 1, 1, 1, 0, 1, 0, 0]), (1, [2]), (0, [1, 1, 1, 1, 1, 1, 1])], fun σ w => dP (slotOf σ 0) fun k_ => dS (slotOf σ 1) fun s_ => dK (slotOf σ 5) fun t_ => dI .i64 (slotOf σ 6) fun p_ => dI .i64 (slotOf σ 8) fun c_ => dB (slotOf σ 93) fun t93_ => sB3 k_ s_ t_ p_ c_ t93_ w)] 2000) [(0, [1, 1, 1, 1, 1, 1, 0, 1, 0, 0]), (2, [1, 1, 1, 1, 1, 1, 0, 1, 0, 0]), (1, [2]), (0, [1, 1, 1, 1, 1, 1, 1])] [(0, .pointer k), (1, .string s), (5, .pointer (some ⟨t, 0, none⟩)), (6, .int .i64 p), (8, .int .i64 c)] w := by kernel_rfl
theorem kvm_KV_Restore.L2b_sound {R : Int → World → Prop} {N2 : Option Addr → ByteArray → Nat → Int → Int → World → Prop} (hN2 : ∀ k s t p c w, N2 k s t p c w → KW Try.prog 30 145 (kvm_KV_Restore.RV R) ([(0, [1, 1, 1, 1, 1, 1, 0, 1, 0, 0]), (2, [1, 1, 1, 1, 1, 1, 0, 1, 0, 0]), (1, [2]), (0, [1, 1, 1, 1, 1, 1, 1])].map (toItem (Try.f30.body.getD .skip))) [(0, .pointer k), (1, .string s), (5, .pointer (some ⟨t, 0, none⟩)), (6, .int .i64 p), (8, .int .i64 c)] w) (k : Option Addr) (s : ByteArray) (t : Nat) (p c : Int) (w : World) (h : kvm_KV_Restore.L2b k s t p c w  N2 R) :
    KW Try.prog 30 145 (kvm_KV_Restore.RV R) ([(0, [1, 1, 1, 1, 1, 1, 0, 1, 0, 0]), (2, [1, 1, 1, 1, 1, 1, 0, 1, 0, 0]), (1, [2]), (0, [1, 1, 1, 1, 1, 1, 1])].map (toItem (Try.f30.body.getD .skip))) [(0, .pointer k), (1, .string s), (5, .pointer (some ⟨t, 0, none⟩)), (6, .int .i64 p), (8, .int .i64 c)] w := by
  exact block_spec Try.func30 Try.mixed (stops_cons (fun σ w h => by
      obtain ⟨k_, e0, h⟩ := dP_elim h
      obtain ⟨s_, e1, h⟩ := dS_elim h
      obtain ⟨t_, e2, h⟩ := dK_elim h
      obtain ⟨p_, e3, h⟩ := dI_elim h
      obtain ⟨c_, e4, h⟩ := dI_elim h
      obtain ⟨t93_, e5, h⟩ := dB_elim h
      exact (kvm_KV_Restore.B3_sound hN2 k_ s_ t_ p_ c_ t93_ w h).weaken (Sub.cons (Sub.cons (Sub.cons (Sub.cons (Sub.cons (Sub.cons (Sub.nil _) e5) e4) e3) e2) e1) e0)) stops_nil) (Eq.mp (kvm_KV_Restore.L2b_eq k s t p c w  N2 R (fun k_ s_ t_ p_ c_ t93_ w => kvm_KV_Restore.B3 k_ s_ t_ p_ c_ t93_ w N2 R)) h)
def kvm_KV_Restore.L2 (k : Option Addr) (s : ByteArray) (t : Nat) (p c : Int) (w : World)  (R : Int → World → Prop) : Prop :=
  ∃ (I : Nat → Option Addr → ByteArray → Nat → Int → Int → World → Prop) (m : Nat), I m k s t p c w ∧ ∀ m k s t p c w, I m k s t p c w → kvm_KV_Restore.L2b k s t p c w  (fun k' s' t' p' c' w' => ∃ m', m' < m ∧ I m' k' s' t' p' c' w') R
theorem kvm_KV_Restore.L2_sound {R : Int → World → Prop}  (k : Option Addr) (s : ByteArray) (t : Nat) (p c : Int) (w : World) (h : kvm_KV_Restore.L2 k s t p c w  R) :
    KW Try.prog 30 145 (kvm_KV_Restore.RV R) ([(0, [1, 1, 1, 1, 1, 1, 0, 1, 0, 0]), (2, [1, 1, 1, 1, 1, 1, 0, 1, 0, 0]), (1, [2]), (0, [1, 1, 1, 1, 1, 1, 1])].map (toItem (Try.f30.body.getD .skip))) [(0, .pointer k), (1, .string s), (5, .pointer (some ⟨t, 0, none⟩)), (6, .int .i64 p), (8, .int .i64 c)] w := by
  obtain ⟨I, m, hBase, hr⟩ := h
  refine KW.loop (fun m σ w => ∃ (k : Option Addr) (s : ByteArray) (t : Nat) (p c : Int), σ = [(0, .pointer k), (1, .string s), (5, .pointer (some ⟨t, 0, none⟩)), (6, .int .i64 p), (8, .int .i64 c)] ∧ I m k s t p c w) ?_ m _ w ⟨k, s, t, p, c, rfl, hBase⟩
  rintro m ih σ w ⟨k, s, t, p, c, rfl, hI⟩
  exact kvm_KV_Restore.L2b_sound  (N2 := fun k' s' t' p' c' w' => ∃ m', m' < m ∧ I m' k' s' t' p' c' w') (fun k' s' t' p' c' w' hx => by obtain ⟨m', hlt, hI'⟩ := hx; exact ih m' hlt _ w' ⟨k', s', t', p', c', rfl, hI'⟩) k s t p c w (hr m k s t p c w hI)
def kvm_KV_Restore.L1b (k : Option Addr) (s : ByteArray) (t : Nat) (p i : Int) (w : World)  (N1 : Option Addr → ByteArray → Nat → Int → Int → World → Prop) (R : Int → World → Prop) : Prop :=
  LdI .i64 ⟨t, 0, none⟩ w fun x24 =>
  Bm (decide (i < x24)) (
    kvm_take.Call s p (1 : Int) (2 : Int) w fun r32_0 r32_1 w1 =>
    (0 ≤ i ∧ i < ((4 : Nat) : Int)) ∧
    Sts [.string r32_0] (Addr.add ⟨t, 1, none⟩ (i.toNat * 1)) 0 w1 fun w2 =>
    kvm_take.Call s r32_1 (0 : Int) (3 : Int) w2 fun r41_0 r41_1 w3 =>
    (0 ≤ i ∧ i < ((4 : Nat) : Int)) ∧
    Sts [.string r41_0] (Addr.add ⟨t, 5, none⟩ (i.toNat * 1)) 0 w3 fun w4 =>
    Bm (decide (r41_1 < (0 : Int))) (
      kvm_KV_Restore.B2 k s t r41_1 i true w4.drew N1 R) (
      Bm (decide (i > (0 : Int))) (
        (0 ≤ (IntKind.i64.wrap (i - (1 : Int))) ∧ (IntKind.i64.wrap (i - (1 : Int))) < ((4 : Nat) : Int)) ∧
        LdS (Addr.add ⟨t, 1, none⟩ ((IntKind.i64.wrap (i - (1 : Int))).toNat * 1)) w4.drew fun x56 =>
        (0 ≤ i ∧ i < ((4 : Nat) : Int)) ∧
        LdS (Addr.add ⟨t, 1, none⟩ (i.toNat * 1)) w4.drew fun x60 =>
        kvm_KV_Restore.B2 k s t r41_1 i (!(Op.bytesLess x56.toList x60.toList)) w4.drew N1 R) (
        kvm_KV_Restore.B2 k s t r41_1 i false w4.drew N1 R))) (
    kvm_KV_Restore.L2 k s t p (0 : Int) w  R)
theorem kvm_KV_Restore.L1b_eq (k : Option Addr) (s : ByteArray) (t : Nat) (p i : Int) (w : World)  (N1 : Option Addr → ByteArray → Nat → Int → Int → World → Prop) (R : Int → World → Prop) (sB2 : Option Addr → ByteArray → Nat → Int → Int → Bool → World → Prop) (sL2 : Option Addr → ByteArray → Nat → Int → Int → World → Prop) :
    (
  LdI .i64 ⟨t, 0, none⟩ w fun x24 =>
  Bm (decide (i < x24)) (
    kvm_take.Call s p (1 : Int) (2 : Int) w fun r32_0 r32_1 w1 =>
    (0 ≤ i ∧ i < ((4 : Nat) : Int)) ∧
    Sts [.string r32_0] (Addr.add ⟨t, 1, none⟩ (i.toNat * 1)) 0 w1 fun w2 =>
    kvm_take.Call s r32_1 (0 : Int) (3 : Int) w2 fun r41_0 r41_1 w3 =>
    (0 ≤ i ∧ i < ((4 : Nat) : Int)) ∧
    Sts [.string r41_0] (Addr.add ⟨t, 5, none⟩ (i.toNat * 1)) 0 w3 fun w4 =>
    Bm (decide (r41_1 < (0 : Int))) (
      sB2 k s t r41_1 i true w4.drew) (
      Bm (decide (i > (0 : Int))) (
        (0 ≤ (IntKind.i64.wrap (i - (1 : Int))) ∧ (IntKind.i64.wrap (i - (1 : Int))) < ((4 : Nat) : Int)) ∧
        LdS (Addr.add ⟨t, 1, none⟩ ((IntKind.i64.wrap (i - (1 : Int))).toNat * 1)) w4.drew fun x56 =>
        (0 ≤ i ∧ i < ((4 : Nat) : Int)) ∧
        LdS (Addr.add ⟨t, 1, none⟩ (i.toNat * 1)) w4.drew fun x60 =>
        sB2 k s t r41_1 i (!(Op.bytesLess x56.toList x60.toList)) w4.drew) (
        sB2 k s t r41_1 i false w4.drew))) (
    sL2 k s t p (0 : Int) w)) = kstep Try.prog 145 Try.f30.results.toList (Try.f30.body.getD .skip) (kvm_KV_Restore.RV R) (kvc Try.prog 145 Try.f30.results.toList (Try.f30.body.getD .skip) (kvm_KV_Restore.RV R) [([(0, [1, 1, 1, 1, 1, 0, 1, 0, 0, 1, 0, 0, 1, 1, 1]), (1, [1]), (0, [1, 1, 1, 1, 1, 0, 1, 0, 0, 1, 1]), (2, [1, 1, 1, 1, 1, 0, 1, 0, 0]), (1, [0]), (0, [1, 1, 1, 1, 1, 1])], fun σ w => dP (slotOf σ 0) fun k_ => dS (slotOf σ 1) fun s_ => dK (slotOf σ 5) fun t_ => dI .i64 (slotOf σ 6) fun p_ => dI .i64 (slotOf σ 7) fun i_ => dB (slotOf σ 63) fun t63_ => sB2 k_ s_ t_ p_ i_ t63_ w),
    ([(0, [1, 1, 1, 1, 1, 1, 0, 1, 0, 0]), (2, [1, 1, 1, 1, 1, 1, 0, 1, 0, 0]), (1, [2]), (0, [1, 1, 1, 1, 1, 1, 1])], fun σ w => dP (slotOf σ 0) fun k_ => dS (slotOf σ 1) fun s_ => dK (slotOf σ 5) fun t_ => dI .i64 (slotOf σ 6) fun p_ => dI .i64 (slotOf σ 8) fun c_ => sL2 k_ s_ t_ p_ c_ w)] 2000) [(0, [1, 1, 1, 1, 1, 0, 1, 0, 0]), (2, [1, 1, 1, 1, 1, 0, 1, 0, 0]), (1, [0]), (0, [1, 1, 1, 1, 1, 1])] [(0, .pointer k), (1, .string s), (5, .pointer (some ⟨t, 0, none⟩)), (6, .int .i64 p), (7, .int .i64 i)] w := by kernel_rfl
theorem kvm_KV_Restore.L1b_sound {R : Int → World → Prop} {N1 : Option Addr → ByteArray → Nat → Int → Int → World → Prop} (hN1 : ∀ k s t p i w, N1 k s t p i w → KW Try.prog 30 145 (kvm_KV_Restore.RV R) ([(0, [1, 1, 1, 1, 1, 0, 1, 0, 0]), (2, [1, 1, 1, 1, 1, 0, 1, 0, 0]), (1, [0]), (0, [1, 1, 1, 1, 1, 1])].map (toItem (Try.f30.body.getD .skip))) [(0, .pointer k), (1, .string s), (5, .pointer (some ⟨t, 0, none⟩)), (6, .int .i64 p), (7, .int .i64 i)] w) (k : Option Addr) (s : ByteArray) (t : Nat) (p i : Int) (w : World) (h : kvm_KV_Restore.L1b k s t p i w  N1 R) :
    KW Try.prog 30 145 (kvm_KV_Restore.RV R) ([(0, [1, 1, 1, 1, 1, 0, 1, 0, 0]), (2, [1, 1, 1, 1, 1, 0, 1, 0, 0]), (1, [0]), (0, [1, 1, 1, 1, 1, 1])].map (toItem (Try.f30.body.getD .skip))) [(0, .pointer k), (1, .string s), (5, .pointer (some ⟨t, 0, none⟩)), (6, .int .i64 p), (7, .int .i64 i)] w := by
  exact block_spec Try.func30 Try.mixed (stops_cons (fun σ w h => by
      obtain ⟨k_, e0, h⟩ := dP_elim h
      obtain ⟨s_, e1, h⟩ := dS_elim h
      obtain ⟨t_, e2, h⟩ := dK_elim h
      obtain ⟨p_, e3, h⟩ := dI_elim h
      obtain ⟨i_, e4, h⟩ := dI_elim h
      obtain ⟨t63_, e5, h⟩ := dB_elim h
      exact (kvm_KV_Restore.B2_sound hN1 k_ s_ t_ p_ i_ t63_ w h).weaken (Sub.cons (Sub.cons (Sub.cons (Sub.cons (Sub.cons (Sub.cons (Sub.nil _) e5) e4) e3) e2) e1) e0)) (stops_cons (fun σ w h => by
      obtain ⟨k_, e0, h⟩ := dP_elim h
      obtain ⟨s_, e1, h⟩ := dS_elim h
      obtain ⟨t_, e2, h⟩ := dK_elim h
      obtain ⟨p_, e3, h⟩ := dI_elim h
      obtain ⟨c_, e4, h⟩ := dI_elim h
      exact (kvm_KV_Restore.L2_sound  k_ s_ t_ p_ c_ w h).weaken (Sub.cons (Sub.cons (Sub.cons (Sub.cons (Sub.cons (Sub.nil _) e4) e3) e2) e1) e0)) stops_nil)) (Eq.mp (kvm_KV_Restore.L1b_eq k s t p i w  N1 R (fun k_ s_ t_ p_ i_ t63_ w => kvm_KV_Restore.B2 k_ s_ t_ p_ i_ t63_ w N1 R) (fun k_ s_ t_ p_ c_ w => kvm_KV_Restore.L2 k_ s_ t_ p_ c_ w  R)) h)
def kvm_KV_Restore.L1 (k : Option Addr) (s : ByteArray) (t : Nat) (p i : Int) (w : World)  (R : Int → World → Prop) : Prop :=
  ∃ (I : Nat → Option Addr → ByteArray → Nat → Int → Int → World → Prop) (m : Nat), I m k s t p i w ∧ ∀ m k s t p i w, I m k s t p i w → kvm_KV_Restore.L1b k s t p i w  (fun k' s' t' p' i' w' => ∃ m', m' < m ∧ I m' k' s' t' p' i' w') R
theorem kvm_KV_Restore.L1_sound {R : Int → World → Prop}  (k : Option Addr) (s : ByteArray) (t : Nat) (p i : Int) (w : World) (h : kvm_KV_Restore.L1 k s t p i w  R) :
    KW Try.prog 30 145 (kvm_KV_Restore.RV R) ([(0, [1, 1, 1, 1, 1, 0, 1, 0, 0]), (2, [1, 1, 1, 1, 1, 0, 1, 0, 0]), (1, [0]), (0, [1, 1, 1, 1, 1, 1])].map (toItem (Try.f30.body.getD .skip))) [(0, .pointer k), (1, .string s), (5, .pointer (some ⟨t, 0, none⟩)), (6, .int .i64 p), (7, .int .i64 i)] w := by
  obtain ⟨I, m, hBase, hr⟩ := h
  refine KW.loop (fun m σ w => ∃ (k : Option Addr) (s : ByteArray) (t : Nat) (p i : Int), σ = [(0, .pointer k), (1, .string s), (5, .pointer (some ⟨t, 0, none⟩)), (6, .int .i64 p), (7, .int .i64 i)] ∧ I m k s t p i w) ?_ m _ w ⟨k, s, t, p, i, rfl, hBase⟩
  rintro m ih σ w ⟨k, s, t, p, i, rfl, hI⟩
  exact kvm_KV_Restore.L1b_sound  (N1 := fun k' s' t' p' i' w' => ∃ m', m' < m ∧ I m' k' s' t' p' i' w') (fun k' s' t' p' i' w' hx => by obtain ⟨m', hlt, hI'⟩ := hx; exact ih m' hlt _ w' ⟨k', s', t', p', i', rfl, hI'⟩) k s t p i w (hr m k s t p i w hI)
def kvm_KV_Restore.B1 (k : Option Addr) (s : ByteArray) (t : Nat) (t17 : Bool) (w : World)   (R : Int → World → Prop) : Prop :=
  Bm t17 (
    R (15 : Int) w) (
    (0 ≤ (0 : Int) ∧ (0 : Int) < ((s.size : Nat) : Int)) ∧
    Sts [.int .i64 (IntKind.i64.wrap (byteAt s (0 : Int)))] ⟨t, 0, none⟩ 0 w fun w1 =>
    kvm_KV_Restore.L1 k s t (1 : Int) (0 : Int) w1  R)
theorem kvm_KV_Restore.B1_eq (k : Option Addr) (s : ByteArray) (t : Nat) (t17 : Bool) (w : World)   (R : Int → World → Prop) (sL1 : Option Addr → ByteArray → Nat → Int → Int → World → Prop) :
    (
  Bm t17 (
    R (15 : Int) w) (
    (0 ≤ (0 : Int) ∧ (0 : Int) < ((s.size : Nat) : Int)) ∧
    Sts [.int .i64 (IntKind.i64.wrap (byteAt s (0 : Int)))] ⟨t, 0, none⟩ 0 w fun w1 =>
    sL1 k s t (1 : Int) (0 : Int) w1)) = kstep Try.prog 145 Try.f30.results.toList (Try.f30.body.getD .skip) (kvm_KV_Restore.RV R) (kvc Try.prog 145 Try.f30.results.toList (Try.f30.body.getD .skip) (kvm_KV_Restore.RV R) [([(0, [1, 1, 1, 1, 1, 0, 1, 0, 0]), (2, [1, 1, 1, 1, 1, 0, 1, 0, 0]), (1, [0]), (0, [1, 1, 1, 1, 1, 1])], fun σ w => dP (slotOf σ 0) fun k_ => dS (slotOf σ 1) fun s_ => dK (slotOf σ 5) fun t_ => dI .i64 (slotOf σ 6) fun p_ => dI .i64 (slotOf σ 7) fun i_ => sL1 k_ s_ t_ p_ i_ w)] 2000) [(0, [1, 1, 0, 1]), (0, [1, 1, 1])] [(0, .pointer k), (1, .string s), (5, .pointer (some ⟨t, 0, none⟩)), (17, .bool t17)] w := by kernel_rfl
theorem kvm_KV_Restore.B1_sound {R : Int → World → Prop}  (k : Option Addr) (s : ByteArray) (t : Nat) (t17 : Bool) (w : World) (h : kvm_KV_Restore.B1 k s t t17 w   R) :
    KW Try.prog 30 145 (kvm_KV_Restore.RV R) ([(0, [1, 1, 0, 1]), (0, [1, 1, 1])].map (toItem (Try.f30.body.getD .skip))) [(0, .pointer k), (1, .string s), (5, .pointer (some ⟨t, 0, none⟩)), (17, .bool t17)] w := by
  exact block_spec Try.func30 Try.mixed (stops_cons (fun σ w h => by
      obtain ⟨k_, e0, h⟩ := dP_elim h
      obtain ⟨s_, e1, h⟩ := dS_elim h
      obtain ⟨t_, e2, h⟩ := dK_elim h
      obtain ⟨p_, e3, h⟩ := dI_elim h
      obtain ⟨i_, e4, h⟩ := dI_elim h
      exact (kvm_KV_Restore.L1_sound  k_ s_ t_ p_ i_ w h).weaken (Sub.cons (Sub.cons (Sub.cons (Sub.cons (Sub.cons (Sub.nil _) e4) e3) e2) e1) e0)) stops_nil) (Eq.mp (kvm_KV_Restore.B1_eq k s t t17 w   R (fun k_ s_ t_ p_ i_ w => kvm_KV_Restore.L1 k_ s_ t_ p_ i_ w  R)) h)
def kvm_KV_Restore.B0 (k : Option Addr) (s : ByteArray) (w : World)   (R : Int → World → Prop) : Prop :=
  New (.cells #[.int .i64 (0 : Int), .string (ByteArray.mk #[]), .string (ByteArray.mk #[]), .string (ByteArray.mk #[]), .string (ByteArray.mk #[]), .string (ByteArray.mk #[]), .string (ByteArray.mk #[]), .string (ByteArray.mk #[]), .string (ByteArray.mk #[]), .int .i64 (0 : Int), .int .i64 (0 : Int), .int .i64 (0 : Int), .int .i64 (0 : Int), .string (ByteArray.mk #[]), .int .i64 (0 : Int), .string (ByteArray.mk #[]), .int .i64 (0 : Int), .string (ByteArray.mk #[])] 57) w fun t_ w1 =>
  Bm (decide (((s.size : Nat) : Int) < (1 : Int))) (
    kvm_KV_Restore.B1 k s t_ true w1  R) (
    (0 ≤ (0 : Int) ∧ (0 : Int) < ((s.size : Nat) : Int)) ∧
    kvm_KV_Restore.B1 k s t_ (decide ((IntKind.i64.wrap (byteAt s (0 : Int))) > (4 : Int))) w1  R)
theorem kvm_KV_Restore.B0_eq (k : Option Addr) (s : ByteArray) (w : World)   (R : Int → World → Prop) (sB1 : Option Addr → ByteArray → Nat → Bool → World → Prop) :
    (
  New (.cells #[.int .i64 (0 : Int), .string (ByteArray.mk #[]), .string (ByteArray.mk #[]), .string (ByteArray.mk #[]), .string (ByteArray.mk #[]), .string (ByteArray.mk #[]), .string (ByteArray.mk #[]), .string (ByteArray.mk #[]), .string (ByteArray.mk #[]), .int .i64 (0 : Int), .int .i64 (0 : Int), .int .i64 (0 : Int), .int .i64 (0 : Int), .string (ByteArray.mk #[]), .int .i64 (0 : Int), .string (ByteArray.mk #[]), .int .i64 (0 : Int), .string (ByteArray.mk #[])] 57) w fun t_ w1 =>
  Bm (decide (((s.size : Nat) : Int) < (1 : Int))) (
    sB1 k s t_ true w1) (
    (0 ≤ (0 : Int) ∧ (0 : Int) < ((s.size : Nat) : Int)) ∧
    sB1 k s t_ (decide ((IntKind.i64.wrap (byteAt s (0 : Int))) > (4 : Int))) w1)) = kstep Try.prog 145 Try.f30.results.toList (Try.f30.body.getD .skip) (kvm_KV_Restore.RV R) (kvc Try.prog 145 Try.f30.results.toList (Try.f30.body.getD .skip) (kvm_KV_Restore.RV R) [([(0, [1, 1, 0, 1]), (0, [1, 1, 1])], fun σ w => dP (slotOf σ 0) fun k_ => dS (slotOf σ 1) fun s_ => dK (slotOf σ 5) fun t_ => dB (slotOf σ 17) fun t17_ => sB1 k_ s_ t_ t17_ w)] 2000) [(0, [])] [(0, .pointer k), (1, .string s)] w := by kernel_rfl
theorem kvm_KV_Restore.B0_sound {R : Int → World → Prop}  (k : Option Addr) (s : ByteArray) (w : World) (h : kvm_KV_Restore.B0 k s w   R) :
    KW Try.prog 30 145 (kvm_KV_Restore.RV R) ([(0, [])].map (toItem (Try.f30.body.getD .skip))) [(0, .pointer k), (1, .string s)] w := by
  exact block_spec Try.func30 Try.mixed (stops_cons (fun σ w h => by
      obtain ⟨k_, e0, h⟩ := dP_elim h
      obtain ⟨s_, e1, h⟩ := dS_elim h
      obtain ⟨t_, e2, h⟩ := dK_elim h
      obtain ⟨t17_, e3, h⟩ := dB_elim h
      exact (kvm_KV_Restore.B1_sound  k_ s_ t_ t17_ w h).weaken (Sub.cons (Sub.cons (Sub.cons (Sub.cons (Sub.nil _) e3) e2) e1) e0)) stops_nil) (Eq.mp (kvm_KV_Restore.B0_eq k s w   R (fun k_ s_ t_ t17_ w => kvm_KV_Restore.B1 k_ s_ t_ t17_ w  R)) h)
theorem kvm_KV_Restore.sound (k : Option Addr) (s : ByteArray) (w : World) (R : Int → World → Prop) (h : kvm_KV_Restore.B0 k s w R) : kvm_KV_Restore.Call k s w R := by
  have hc := calls_of_block (args := #[.pointer k, .string s]) Try.func30 (body := (Try.f30.body.getD .skip)) (by kernel_rfl) (by kernel_rfl) (args_slot _) (kvm_KV_Restore.B0_sound k s w h)
  exact hc.mono fun e w' he => by
    obtain ⟨v, rfl, hv⟩ := he
    exact kvm_KV_Restore.RV_elim hv
def kvlaw_SameApply.B0 (x m0 : Option Addr) (data : ByteArray) (w : World)   (R : Bool → World → Prop) : Prop :=
  kv_KV_Apply.Call x data w fun r11_0 r11_1 w1 =>
  New (.cells #[.int .i64 (0 : Int), .string (ByteArray.mk #[])] 54) w1 fun a_ w2 =>
  Sts [.int .i64 r11_0, .string r11_1] ⟨a_, 0, none⟩ 0 w2 fun w3 =>
  kvm_KV_Apply.Call m0 data w3 fun r14_0 r14_1 w4 =>
  New (.cells #[.int .i64 (0 : Int), .string (ByteArray.mk #[])] 54) w4 fun b_ w5 =>
  Sts [.int .i64 r14_0, .string r14_1] ⟨b_, 0, none⟩ 0 w5 fun w6 =>
  LdI .i64 ⟨a_, 0, none⟩ w6 fun x15_0 =>
  LdS ⟨a_, 1, none⟩ w6 fun x15_1 =>
  LdI .i64 ⟨b_, 0, none⟩ w6 fun x16_0 =>
  LdS ⟨b_, 1, none⟩ w6 fun x16_1 =>
  kvlaw_SameAns.Call x15_0 x15_1 x16_0 x16_1 w6 fun r17 w7 =>
  R r17 w7
theorem kvlaw_SameApply.B0_eq (x m0 : Option Addr) (data : ByteArray) (w : World)   (R : Bool → World → Prop)  :
    (
  kv_KV_Apply.Call x data w fun r11_0 r11_1 w1 =>
  New (.cells #[.int .i64 (0 : Int), .string (ByteArray.mk #[])] 54) w1 fun a_ w2 =>
  Sts [.int .i64 r11_0, .string r11_1] ⟨a_, 0, none⟩ 0 w2 fun w3 =>
  kvm_KV_Apply.Call m0 data w3 fun r14_0 r14_1 w4 =>
  New (.cells #[.int .i64 (0 : Int), .string (ByteArray.mk #[])] 54) w4 fun b_ w5 =>
  Sts [.int .i64 r14_0, .string r14_1] ⟨b_, 0, none⟩ 0 w5 fun w6 =>
  LdI .i64 ⟨a_, 0, none⟩ w6 fun x15_0 =>
  LdS ⟨a_, 1, none⟩ w6 fun x15_1 =>
  LdI .i64 ⟨b_, 0, none⟩ w6 fun x16_0 =>
  LdS ⟨b_, 1, none⟩ w6 fun x16_1 =>
  kvlaw_SameAns.Call x15_0 x15_1 x16_0 x16_1 w6 fun r17 w7 =>
  R r17 w7) = kstep Try.prog 18 Try.f31.results.toList (Try.f31.body.getD .skip) (kvlaw_SameApply.RV R) (kvc Try.prog 18 Try.f31.results.toList (Try.f31.body.getD .skip) (kvlaw_SameApply.RV R) [] 2000) [(0, [])] [(0, .pointer x), (1, .pointer m0), (2, .string data)] w := by kernel_rfl
theorem kvlaw_SameApply.B0_sound {R : Bool → World → Prop}  (x m0 : Option Addr) (data : ByteArray) (w : World) (h : kvlaw_SameApply.B0 x m0 data w   R) :
    KW Try.prog 31 18 (kvlaw_SameApply.RV R) ([(0, [])].map (toItem (Try.f31.body.getD .skip))) [(0, .pointer x), (1, .pointer m0), (2, .string data)] w := by
  exact block_spec Try.func31 Try.mixed stops_nil (Eq.mp (kvlaw_SameApply.B0_eq x m0 data w   R ) h)
theorem kvlaw_SameApply.sound (x m0 : Option Addr) (data : ByteArray) (w : World) (R : Bool → World → Prop) (h : kvlaw_SameApply.B0 x m0 data w R) : kvlaw_SameApply.Call x m0 data w R := by
  have hc := calls_of_block (args := #[.pointer x, .pointer m0, .string data]) Try.func31 (body := (Try.f31.body.getD .skip)) (by kernel_rfl) (by kernel_rfl) (args_slot _) (kvlaw_SameApply.B0_sound x m0 data w h)
  exact hc.mono fun e w' he => by
    obtain ⟨v, rfl, hv⟩ := he
    exact kvlaw_SameApply.RV_elim hv
def kvlaw_CmdOf.B1 (t2 c : Nat) (w : World)   (R : Int → Int → Int → ByteArray → ByteArray → ByteArray → World → Prop) : Prop :=
  LdI .i64 ⟨c, 0, none⟩ w fun x26_0 =>
  LdI .i64 ⟨c, 1, none⟩ w fun x26_1 =>
  LdI .i64 ⟨c, 2, none⟩ w fun x26_2 =>
  LdS ⟨c, 3, none⟩ w fun x26_3 =>
  LdS ⟨c, 4, none⟩ w fun x26_4 =>
  LdS ⟨c, 5, none⟩ w fun x26_5 =>
  Sts [.int .i64 x26_0, .int .i64 x26_1, .int .i64 x26_2, .string x26_3, .string x26_4, .string x26_5] ⟨t2, 0, none⟩ 0 w fun w1 =>
  LdI .i64 ⟨t2, 0, none⟩ w1 fun r_0 =>
  LdI .i64 ⟨t2, 1, none⟩ w1 fun r_1 =>
  LdI .i64 ⟨t2, 2, none⟩ w1 fun r_2 =>
  LdS ⟨t2, 3, none⟩ w1 fun r_3 =>
  LdS ⟨t2, 4, none⟩ w1 fun r_4 =>
  LdS ⟨t2, 5, none⟩ w1 fun r_5 =>
  R r_0 r_1 r_2 r_3 r_4 r_5 w1
theorem kvlaw_CmdOf.B1_eq (t2 c : Nat) (w : World)   (R : Int → Int → Int → ByteArray → ByteArray → ByteArray → World → Prop)  :
    (
  LdI .i64 ⟨c, 0, none⟩ w fun x26_0 =>
  LdI .i64 ⟨c, 1, none⟩ w fun x26_1 =>
  LdI .i64 ⟨c, 2, none⟩ w fun x26_2 =>
  LdS ⟨c, 3, none⟩ w fun x26_3 =>
  LdS ⟨c, 4, none⟩ w fun x26_4 =>
  LdS ⟨c, 5, none⟩ w fun x26_5 =>
  Sts [.int .i64 x26_0, .int .i64 x26_1, .int .i64 x26_2, .string x26_3, .string x26_4, .string x26_5] ⟨t2, 0, none⟩ 0 w fun w1 =>
  LdI .i64 ⟨t2, 0, none⟩ w1 fun r_0 =>
  LdI .i64 ⟨t2, 1, none⟩ w1 fun r_1 =>
  LdI .i64 ⟨t2, 2, none⟩ w1 fun r_2 =>
  LdS ⟨t2, 3, none⟩ w1 fun r_3 =>
  LdS ⟨t2, 4, none⟩ w1 fun r_4 =>
  LdS ⟨t2, 5, none⟩ w1 fun r_5 =>
  R r_0 r_1 r_2 r_3 r_4 r_5 w1) = kstep Try.prog 27 Try.f32.results.toList (Try.f32.body.getD .skip) (kvlaw_CmdOf.RV R) (kvc Try.prog 27 Try.f32.results.toList (Try.f32.body.getD .skip) (kvlaw_CmdOf.RV R) [] 2000) [(0, [1, 1, 1])] [(2, .pointer (some ⟨t2, 0, none⟩)), (3, .pointer (some ⟨c, 0, none⟩))] w := by kernel_rfl
theorem kvlaw_CmdOf.B1_sound {R : Int → Int → Int → ByteArray → ByteArray → ByteArray → World → Prop}  (t2 c : Nat) (w : World) (h : kvlaw_CmdOf.B1 t2 c w   R) :
    KW Try.prog 32 27 (kvlaw_CmdOf.RV R) ([(0, [1, 1, 1])].map (toItem (Try.f32.body.getD .skip))) [(2, .pointer (some ⟨t2, 0, none⟩)), (3, .pointer (some ⟨c, 0, none⟩))] w := by
  exact block_spec Try.func32 Try.mixed stops_nil (Eq.mp (kvlaw_CmdOf.B1_eq t2 c w   R ) h)
def kvlaw_CmdOf.B0 (o_0 o_1 o_2 o_3 : Int) (o_4 o_5 : ByteArray) (w : World)   (R : Int → Int → Int → ByteArray → ByteArray → ByteArray → World → Prop) : Prop :=
  New (.cells #[.int .i64 o_0, .int .i64 o_1, .int .i64 o_2, .int .i64 o_3, .string o_4, .string o_5] 33) w fun o_ w1 =>
  New (.cells #[.int .i64 (0 : Int), .int .i64 (0 : Int), .int .i64 (0 : Int), .string (ByteArray.mk #[]), .string (ByteArray.mk #[]), .string (ByteArray.mk #[])] 71) w1 fun b2 w2 =>
  LdI .i64 ⟨o_, 1, none⟩ w2 fun x5 =>
  LdI .i64 ⟨o_, 2, none⟩ w2 fun x7 =>
  LdI .i64 ⟨o_, 3, none⟩ w2 fun x9 =>
  LdS ⟨o_, 4, none⟩ w2 fun x11 =>
  LdS ⟨o_, 5, none⟩ w2 fun x13 =>
  New (.cells #[.int .i64 (0 : Int), .int .i64 (0 : Int), .int .i64 (0 : Int), .string (ByteArray.mk #[]), .string (ByteArray.mk #[]), .string (ByteArray.mk #[])] 71) w2 fun c_ w3 =>
  Sts [.int .i64 x5, .int .i64 x7, .int .i64 x9, .string x11, .string x13, .string (ByteArray.mk #[])] ⟨c_, 0, none⟩ 0 w3 fun w4 =>
  LdI .i64 ⟨o_, 1, none⟩ w4 fun x16 =>
  Bm (x16 == (4 : Int)) (
    LdS ⟨o_, 5, none⟩ w4 fun x20 =>
    kvlaw_SplitBar.Call x20 w4 fun r21_0 r21_1 w5 =>
    Sts [.string r21_0] ⟨c_, 5, none⟩ 0 w5 fun w6 =>
    Sts [.string r21_1] ⟨c_, 4, none⟩ 0 w6 fun w7 =>
    kvlaw_CmdOf.B1 b2 c_ w7  R) (
    kvlaw_CmdOf.B1 b2 c_ w4  R)
theorem kvlaw_CmdOf.B0_eq (o_0 o_1 o_2 o_3 : Int) (o_4 o_5 : ByteArray) (w : World)   (R : Int → Int → Int → ByteArray → ByteArray → ByteArray → World → Prop) (sB1 : Nat → Nat → World → Prop) :
    (
  New (.cells #[.int .i64 o_0, .int .i64 o_1, .int .i64 o_2, .int .i64 o_3, .string o_4, .string o_5] 33) w fun o_ w1 =>
  New (.cells #[.int .i64 (0 : Int), .int .i64 (0 : Int), .int .i64 (0 : Int), .string (ByteArray.mk #[]), .string (ByteArray.mk #[]), .string (ByteArray.mk #[])] 71) w1 fun b2 w2 =>
  LdI .i64 ⟨o_, 1, none⟩ w2 fun x5 =>
  LdI .i64 ⟨o_, 2, none⟩ w2 fun x7 =>
  LdI .i64 ⟨o_, 3, none⟩ w2 fun x9 =>
  LdS ⟨o_, 4, none⟩ w2 fun x11 =>
  LdS ⟨o_, 5, none⟩ w2 fun x13 =>
  New (.cells #[.int .i64 (0 : Int), .int .i64 (0 : Int), .int .i64 (0 : Int), .string (ByteArray.mk #[]), .string (ByteArray.mk #[]), .string (ByteArray.mk #[])] 71) w2 fun c_ w3 =>
  Sts [.int .i64 x5, .int .i64 x7, .int .i64 x9, .string x11, .string x13, .string (ByteArray.mk #[])] ⟨c_, 0, none⟩ 0 w3 fun w4 =>
  LdI .i64 ⟨o_, 1, none⟩ w4 fun x16 =>
  Bm (x16 == (4 : Int)) (
    LdS ⟨o_, 5, none⟩ w4 fun x20 =>
    kvlaw_SplitBar.Call x20 w4 fun r21_0 r21_1 w5 =>
    Sts [.string r21_0] ⟨c_, 5, none⟩ 0 w5 fun w6 =>
    Sts [.string r21_1] ⟨c_, 4, none⟩ 0 w6 fun w7 =>
    sB1 b2 c_ w7) (
    sB1 b2 c_ w4)) = kstep Try.prog 27 Try.f32.results.toList (Try.f32.body.getD .skip) (kvlaw_CmdOf.RV R) (kvc Try.prog 27 Try.f32.results.toList (Try.f32.body.getD .skip) (kvlaw_CmdOf.RV R) [([(0, [1, 1, 1])], fun σ w => dK (slotOf σ 2) fun t2_ => dK (slotOf σ 3) fun c_ => sB1 t2_ c_ w)] 2000) [(0, [])] [(0, .agg #[.int .i64 o_0, .int .i64 o_1, .int .i64 o_2, .int .i64 o_3, .string o_4, .string o_5])] w := by kernel_rfl
theorem kvlaw_CmdOf.B0_sound {R : Int → Int → Int → ByteArray → ByteArray → ByteArray → World → Prop}  (o_0 o_1 o_2 o_3 : Int) (o_4 o_5 : ByteArray) (w : World) (h : kvlaw_CmdOf.B0 o_0 o_1 o_2 o_3 o_4 o_5 w   R) :
    KW Try.prog 32 27 (kvlaw_CmdOf.RV R) ([(0, [])].map (toItem (Try.f32.body.getD .skip))) [(0, .agg #[.int .i64 o_0, .int .i64 o_1, .int .i64 o_2, .int .i64 o_3, .string o_4, .string o_5])] w := by
  exact block_spec Try.func32 Try.mixed (stops_cons (fun σ w h => by
      obtain ⟨t2_, e0, h⟩ := dK_elim h
      obtain ⟨c_, e1, h⟩ := dK_elim h
      exact (kvlaw_CmdOf.B1_sound  t2_ c_ w h).weaken (Sub.cons (Sub.cons (Sub.nil _) e1) e0)) stops_nil) (Eq.mp (kvlaw_CmdOf.B0_eq o_0 o_1 o_2 o_3 o_4 o_5 w   R (fun t2_ c_ w => kvlaw_CmdOf.B1 t2_ c_ w  R)) h)
theorem kvlaw_CmdOf.sound (o_0 o_1 o_2 o_3 : Int) (o_4 o_5 : ByteArray) (w : World) (R : Int → Int → Int → ByteArray → ByteArray → ByteArray → World → Prop) (h : kvlaw_CmdOf.B0 o_0 o_1 o_2 o_3 o_4 o_5 w R) : kvlaw_CmdOf.Call o_0 o_1 o_2 o_3 o_4 o_5 w R := by
  have hc := calls_of_block (args := #[.agg #[.int .i64 o_0, .int .i64 o_1, .int .i64 o_2, .int .i64 o_3, .string o_4, .string o_5]]) Try.func32 (body := (Try.f32.body.getD .skip)) (by kernel_rfl) (by kernel_rfl) (args_slot _) (kvlaw_CmdOf.B0_sound o_0 o_1 o_2 o_3 o_4 o_5 w h)
  exact hc.mono fun e w' he => by
    obtain ⟨v, rfl, hv⟩ := he
    exact kvlaw_CmdOf.RV_elim hv
def api_EncodeCmd.B0 (c_0 c_1 c_2 : Int) (c_3 c_4 c_5 : ByteArray) (w : World)   (R : ByteArray → World → Prop) : Prop :=
  New (.cells #[.int .i64 c_0, .int .i64 c_1, .int .i64 c_2, .string c_3, .string c_4, .string c_5] 71) w fun c_ w1 =>
  LdI .i64 ⟨c_, 0, none⟩ w1 fun x4_0 =>
  LdI .i64 ⟨c_, 1, none⟩ w1 fun x4_1 =>
  LdI .i64 ⟨c_, 2, none⟩ w1 fun x4_2 =>
  LdS ⟨c_, 3, none⟩ w1 fun x4_3 =>
  LdS ⟨c_, 4, none⟩ w1 fun x4_4 =>
  LdS ⟨c_, 5, none⟩ w1 fun x4_5 =>
  api_CmdOK.Call x4_0 x4_1 x4_2 x4_3 x4_4 x4_5 w1 fun r5 w2 =>
  Bm (!r5) (
    R (ByteArray.mk #[0]) w2) (
    Make 5 (.int .u8 (0 : Int)) 1 1 (0 : Int) (24 : Int) w2 fun b7 w3 =>
    LdI .i64 ⟨c_, 0, none⟩ w3 fun x10 =>
    LdI .i64 ⟨c_, 1, none⟩ w3 fun x13 =>
    New (.cells #[.int .u8 (IntKind.u8.wrap x10), .int .u8 (IntKind.u8.wrap x13)] 5) w3 fun b15 w4 =>
    Append 5 (.int .u8 (0 : Int)) 1 1 (some ⟨b7, 0, none⟩) 0 24 (some ⟨b15, 0, none⟩) 2 w4 fun b16 c16 w5 =>
    LdI .i64 ⟨c_, 2, none⟩ w5 fun x19 =>
    api_PutU64.Call b16 (0 + 2) c16 x19 w5 fun r20_b r20_l r20_c w6 =>
    LdS ⟨c_, 3, none⟩ w6 fun x23 =>
    api_putStr.Call r20_b r20_l r20_c x23 w6 fun r24_b r24_l r24_c w7 =>
    LdS ⟨c_, 4, none⟩ w7 fun x27 =>
    api_putStr.Call r24_b r24_l r24_c x27 w7 fun r28_b r28_l r28_c w8 =>
    LdS ⟨c_, 5, none⟩ w8 fun x31 =>
    api_putStr.Call r28_b r28_l r28_c x31 w8 fun r32_b r32_l r32_c w9 =>
    ToStr r32_b r32_l w9 fun s34 =>
    R s34 w9)
theorem api_EncodeCmd.B0_eq (c_0 c_1 c_2 : Int) (c_3 c_4 c_5 : ByteArray) (w : World)   (R : ByteArray → World → Prop)  :
    (
  New (.cells #[.int .i64 c_0, .int .i64 c_1, .int .i64 c_2, .string c_3, .string c_4, .string c_5] 71) w fun c_ w1 =>
  LdI .i64 ⟨c_, 0, none⟩ w1 fun x4_0 =>
  LdI .i64 ⟨c_, 1, none⟩ w1 fun x4_1 =>
  LdI .i64 ⟨c_, 2, none⟩ w1 fun x4_2 =>
  LdS ⟨c_, 3, none⟩ w1 fun x4_3 =>
  LdS ⟨c_, 4, none⟩ w1 fun x4_4 =>
  LdS ⟨c_, 5, none⟩ w1 fun x4_5 =>
  api_CmdOK.Call x4_0 x4_1 x4_2 x4_3 x4_4 x4_5 w1 fun r5 w2 =>
  Bm (!r5) (
    R (ByteArray.mk #[0]) w2) (
    Make 5 (.int .u8 (0 : Int)) 1 1 (0 : Int) (24 : Int) w2 fun b7 w3 =>
    LdI .i64 ⟨c_, 0, none⟩ w3 fun x10 =>
    LdI .i64 ⟨c_, 1, none⟩ w3 fun x13 =>
    New (.cells #[.int .u8 (IntKind.u8.wrap x10), .int .u8 (IntKind.u8.wrap x13)] 5) w3 fun b15 w4 =>
    Append 5 (.int .u8 (0 : Int)) 1 1 (some ⟨b7, 0, none⟩) 0 24 (some ⟨b15, 0, none⟩) 2 w4 fun b16 c16 w5 =>
    LdI .i64 ⟨c_, 2, none⟩ w5 fun x19 =>
    api_PutU64.Call b16 (0 + 2) c16 x19 w5 fun r20_b r20_l r20_c w6 =>
    LdS ⟨c_, 3, none⟩ w6 fun x23 =>
    api_putStr.Call r20_b r20_l r20_c x23 w6 fun r24_b r24_l r24_c w7 =>
    LdS ⟨c_, 4, none⟩ w7 fun x27 =>
    api_putStr.Call r24_b r24_l r24_c x27 w7 fun r28_b r28_l r28_c w8 =>
    LdS ⟨c_, 5, none⟩ w8 fun x31 =>
    api_putStr.Call r28_b r28_l r28_c x31 w8 fun r32_b r32_l r32_c w9 =>
    ToStr r32_b r32_l w9 fun s34 =>
    R s34 w9)) = kstep Try.prog 35 Try.f33.results.toList (Try.f33.body.getD .skip) (api_EncodeCmd.RV R) (kvc Try.prog 35 Try.f33.results.toList (Try.f33.body.getD .skip) (api_EncodeCmd.RV R) [] 2000) [(0, [])] [(0, .agg #[.int .i64 c_0, .int .i64 c_1, .int .i64 c_2, .string c_3, .string c_4, .string c_5])] w := by kernel_rfl
theorem api_EncodeCmd.B0_sound {R : ByteArray → World → Prop}  (c_0 c_1 c_2 : Int) (c_3 c_4 c_5 : ByteArray) (w : World) (h : api_EncodeCmd.B0 c_0 c_1 c_2 c_3 c_4 c_5 w   R) :
    KW Try.prog 33 35 (api_EncodeCmd.RV R) ([(0, [])].map (toItem (Try.f33.body.getD .skip))) [(0, .agg #[.int .i64 c_0, .int .i64 c_1, .int .i64 c_2, .string c_3, .string c_4, .string c_5])] w := by
  exact block_spec Try.func33 Try.mixed stops_nil (Eq.mp (api_EncodeCmd.B0_eq c_0 c_1 c_2 c_3 c_4 c_5 w   R ) h)
theorem api_EncodeCmd.sound (c_0 c_1 c_2 : Int) (c_3 c_4 c_5 : ByteArray) (w : World) (R : ByteArray → World → Prop) (h : api_EncodeCmd.B0 c_0 c_1 c_2 c_3 c_4 c_5 w R) : api_EncodeCmd.Call c_0 c_1 c_2 c_3 c_4 c_5 w R := by
  have hc := calls_of_block (args := #[.agg #[.int .i64 c_0, .int .i64 c_1, .int .i64 c_2, .string c_3, .string c_4, .string c_5]]) Try.func33 (body := (Try.f33.body.getD .skip)) (by kernel_rfl) (by kernel_rfl) (args_slot _) (api_EncodeCmd.B0_sound c_0 c_1 c_2 c_3 c_4 c_5 w h)
  exact hc.mono fun e w' he => by
    obtain ⟨v, rfl, hv⟩ := he
    exact api_EncodeCmd.RV_elim hv
def kvlaw_SameKeyAt.B0 (x m0 : Option Addr) (i : Int) (w : World)   (R : Bool → World → Prop) : Prop :=
  kv_KV_KeyAt.Call x i w fun r11 w1 =>
  kvm_KV_KeyAt.Call m0 i w1 fun r14 w2 =>
  R (r11.toList == r14.toList) w2
theorem kvlaw_SameKeyAt.B0_eq (x m0 : Option Addr) (i : Int) (w : World)   (R : Bool → World → Prop)  :
    (
  kv_KV_KeyAt.Call x i w fun r11 w1 =>
  kvm_KV_KeyAt.Call m0 i w1 fun r14 w2 =>
  R (r11.toList == r14.toList) w2) = kstep Try.prog 18 Try.f34.results.toList (Try.f34.body.getD .skip) (kvlaw_SameKeyAt.RV R) (kvc Try.prog 18 Try.f34.results.toList (Try.f34.body.getD .skip) (kvlaw_SameKeyAt.RV R) [] 2000) [(0, [])] [(0, .pointer x), (1, .pointer m0), (2, .int .i64 i)] w := by kernel_rfl
theorem kvlaw_SameKeyAt.B0_sound {R : Bool → World → Prop}  (x m0 : Option Addr) (i : Int) (w : World) (h : kvlaw_SameKeyAt.B0 x m0 i w   R) :
    KW Try.prog 34 18 (kvlaw_SameKeyAt.RV R) ([(0, [])].map (toItem (Try.f34.body.getD .skip))) [(0, .pointer x), (1, .pointer m0), (2, .int .i64 i)] w := by
  exact block_spec Try.func34 Try.mixed stops_nil (Eq.mp (kvlaw_SameKeyAt.B0_eq x m0 i w   R ) h)
theorem kvlaw_SameKeyAt.sound (x m0 : Option Addr) (i : Int) (w : World) (R : Bool → World → Prop) (h : kvlaw_SameKeyAt.B0 x m0 i w R) : kvlaw_SameKeyAt.Call x m0 i w R := by
  have hc := calls_of_block (args := #[.pointer x, .pointer m0, .int .i64 i]) Try.func34 (body := (Try.f34.body.getD .skip)) (by kernel_rfl) (by kernel_rfl) (args_slot _) (kvlaw_SameKeyAt.B0_sound x m0 i w h)
  exact hc.mono fun e w' he => by
    obtain ⟨v, rfl, hv⟩ := he
    exact kvlaw_SameKeyAt.RV_elim hv
def kvlaw_SameLen.B0 (x m0 : Option Addr) (w : World)   (R : Bool → World → Prop) : Prop :=
  kv_KV_Len.Call x w fun r8 w1 =>
  kvm_KV_Len.Call m0 w1 fun r10 w2 =>
  R (r8 == r10) w2
theorem kvlaw_SameLen.B0_eq (x m0 : Option Addr) (w : World)   (R : Bool → World → Prop)  :
    (
  kv_KV_Len.Call x w fun r8 w1 =>
  kvm_KV_Len.Call m0 w1 fun r10 w2 =>
  R (r8 == r10) w2) = kstep Try.prog 14 Try.f35.results.toList (Try.f35.body.getD .skip) (kvlaw_SameLen.RV R) (kvc Try.prog 14 Try.f35.results.toList (Try.f35.body.getD .skip) (kvlaw_SameLen.RV R) [] 2000) [(0, [])] [(0, .pointer x), (1, .pointer m0)] w := by kernel_rfl
theorem kvlaw_SameLen.B0_sound {R : Bool → World → Prop}  (x m0 : Option Addr) (w : World) (h : kvlaw_SameLen.B0 x m0 w   R) :
    KW Try.prog 35 14 (kvlaw_SameLen.RV R) ([(0, [])].map (toItem (Try.f35.body.getD .skip))) [(0, .pointer x), (1, .pointer m0)] w := by
  exact block_spec Try.func35 Try.mixed stops_nil (Eq.mp (kvlaw_SameLen.B0_eq x m0 w   R ) h)
theorem kvlaw_SameLen.sound (x m0 : Option Addr) (w : World) (R : Bool → World → Prop) (h : kvlaw_SameLen.B0 x m0 w R) : kvlaw_SameLen.Call x m0 w R := by
  have hc := calls_of_block (args := #[.pointer x, .pointer m0]) Try.func35 (body := (Try.f35.body.getD .skip)) (by kernel_rfl) (by kernel_rfl) (args_slot _) (kvlaw_SameLen.B0_sound x m0 w h)
  exact hc.mono fun e w' he => by
    obtain ⟨v, rfl, hv⟩ := he
    exact kvlaw_SameLen.RV_elim hv
def kvlaw_SameSnapshot.B0 (x m0 : Option Addr) (w : World)   (R : Bool → World → Prop) : Prop :=
  kv_KV_Snapshot.Call x w fun r8 w1 =>
  kvm_KV_Snapshot.Call m0 w1 fun r10 w2 =>
  R (r8.toList == r10.toList) w2
theorem kvlaw_SameSnapshot.B0_eq (x m0 : Option Addr) (w : World)   (R : Bool → World → Prop)  :
    (
  kv_KV_Snapshot.Call x w fun r8 w1 =>
  kvm_KV_Snapshot.Call m0 w1 fun r10 w2 =>
  R (r8.toList == r10.toList) w2) = kstep Try.prog 14 Try.f36.results.toList (Try.f36.body.getD .skip) (kvlaw_SameSnapshot.RV R) (kvc Try.prog 14 Try.f36.results.toList (Try.f36.body.getD .skip) (kvlaw_SameSnapshot.RV R) [] 2000) [(0, [])] [(0, .pointer x), (1, .pointer m0)] w := by kernel_rfl
theorem kvlaw_SameSnapshot.B0_sound {R : Bool → World → Prop}  (x m0 : Option Addr) (w : World) (h : kvlaw_SameSnapshot.B0 x m0 w   R) :
    KW Try.prog 36 14 (kvlaw_SameSnapshot.RV R) ([(0, [])].map (toItem (Try.f36.body.getD .skip))) [(0, .pointer x), (1, .pointer m0)] w := by
  exact block_spec Try.func36 Try.mixed stops_nil (Eq.mp (kvlaw_SameSnapshot.B0_eq x m0 w   R ) h)
theorem kvlaw_SameSnapshot.sound (x m0 : Option Addr) (w : World) (R : Bool → World → Prop) (h : kvlaw_SameSnapshot.B0 x m0 w R) : kvlaw_SameSnapshot.Call x m0 w R := by
  have hc := calls_of_block (args := #[.pointer x, .pointer m0]) Try.func36 (body := (Try.f36.body.getD .skip)) (by kernel_rfl) (by kernel_rfl) (args_slot _) (kvlaw_SameSnapshot.B0_sound x m0 w h)
  exact hc.mono fun e w' he => by
    obtain ⟨v, rfl, hv⟩ := he
    exact kvlaw_SameSnapshot.RV_elim hv
def kvlaw_Sound.B0 (x : Option Addr) (w : World)   (R : Bool → World → Prop) : Prop :=
  kv_KV_Check.Call x w fun r4 w1 =>
  R (r4.toList == (ByteArray.mk #[]).toList) w1
theorem kvlaw_Sound.B0_eq (x : Option Addr) (w : World)   (R : Bool → World → Prop)  :
    (
  kv_KV_Check.Call x w fun r4 w1 =>
  R (r4.toList == (ByteArray.mk #[]).toList) w1) = kstep Try.prog 6 Try.f37.results.toList (Try.f37.body.getD .skip) (kvlaw_Sound.RV R) (kvc Try.prog 6 Try.f37.results.toList (Try.f37.body.getD .skip) (kvlaw_Sound.RV R) [] 2000) [(0, [])] [(0, .pointer x)] w := by kernel_rfl
theorem kvlaw_Sound.B0_sound {R : Bool → World → Prop}  (x : Option Addr) (w : World) (h : kvlaw_Sound.B0 x w   R) :
    KW Try.prog 37 6 (kvlaw_Sound.RV R) ([(0, [])].map (toItem (Try.f37.body.getD .skip))) [(0, .pointer x)] w := by
  exact block_spec Try.func37 Try.mixed stops_nil (Eq.mp (kvlaw_Sound.B0_eq x w   R ) h)
theorem kvlaw_Sound.sound (x : Option Addr) (w : World) (R : Bool → World → Prop) (h : kvlaw_Sound.B0 x w R) : kvlaw_Sound.Call x w R := by
  have hc := calls_of_block (args := #[.pointer x]) Try.func37 (body := (Try.f37.body.getD .skip)) (by kernel_rfl) (by kernel_rfl) (args_slot _) (kvlaw_Sound.B0_sound x w h)
  exact hc.mono fun e w' he => by
    obtain ⟨v, rfl, hv⟩ := he
    exact kvlaw_Sound.RV_elim hv
def api_DecodeCmd.B1 (s : ByteArray) (t2 c : Nat) (p f n : Int) (w : World) (N1 : ByteArray → Nat → Nat → Int → Int → World → Prop)  (R : Int → Int → Int → ByteArray → ByteArray → ByteArray → Int → World → Prop) : Prop :=
  N1 s t2 c (IntKind.i64.wrap (p + (IntKind.i64.wrap ((1 : Int) + n)))) (IntKind.i64.wrap (f + (1 : Int))) w
theorem api_DecodeCmd.B1_eq (s : ByteArray) (t2 c : Nat) (p f n : Int) (w : World) (N1 : ByteArray → Nat → Nat → Int → Int → World → Prop)  (R : Int → Int → Int → ByteArray → ByteArray → ByteArray → Int → World → Prop)  :
    (
  N1 s t2 c (IntKind.i64.wrap (p + (IntKind.i64.wrap ((1 : Int) + n)))) (IntKind.i64.wrap (f + (1 : Int))) w) = kstep Try.prog 78 Try.f38.results.toList (Try.f38.body.getD .skip) (api_DecodeCmd.RV R) (kvc Try.prog 78 Try.f38.results.toList (Try.f38.body.getD .skip) (api_DecodeCmd.RV R) [([(0, [1, 1, 1, 1, 1, 0, 1, 0, 0]), (2, [1, 1, 1, 1, 1, 0, 1, 0, 0]), (1, [0]), (0, [1, 1, 1, 1, 1, 1])], fun σ w => dS (slotOf σ 0) fun s_ => dK (slotOf σ 2) fun t2_ => dK (slotOf σ 4) fun c_ => dI .i64 (slotOf σ 5) fun p_ => dI .i64 (slotOf σ 6) fun f_ => N1 s_ t2_ c_ p_ f_ w)] 2000) [(0, [1, 1, 1, 1, 1, 0, 1, 0, 0, 1, 0, 0, 1, 1, 1, 1, 1]), (1, [1]), (0, [1, 1, 1, 1, 1, 0, 1, 0, 0, 1, 1]), (2, [1, 1, 1, 1, 1, 0, 1, 0, 0]), (1, [0]), (0, [1, 1, 1, 1, 1, 1])] [(0, .string s), (2, .pointer (some ⟨t2, 0, none⟩)), (4, .pointer (some ⟨c, 0, none⟩)), (5, .int .i64 p), (6, .int .i64 f), (7, .int .i64 n)] w := by kernel_rfl
theorem api_DecodeCmd.B1_sound {R : Int → Int → Int → ByteArray → ByteArray → ByteArray → Int → World → Prop} {N1 : ByteArray → Nat → Nat → Int → Int → World → Prop} (hN1 : ∀ s t2 c p f w, N1 s t2 c p f w → KW Try.prog 38 78 (api_DecodeCmd.RV R) ([(0, [1, 1, 1, 1, 1, 0, 1, 0, 0]), (2, [1, 1, 1, 1, 1, 0, 1, 0, 0]), (1, [0]), (0, [1, 1, 1, 1, 1, 1])].map (toItem (Try.f38.body.getD .skip))) [(0, .string s), (2, .pointer (some ⟨t2, 0, none⟩)), (4, .pointer (some ⟨c, 0, none⟩)), (5, .int .i64 p), (6, .int .i64 f)] w) (s : ByteArray) (t2 c : Nat) (p f n : Int) (w : World) (h : api_DecodeCmd.B1 s t2 c p f n w N1  R) :
    KW Try.prog 38 78 (api_DecodeCmd.RV R) ([(0, [1, 1, 1, 1, 1, 0, 1, 0, 0, 1, 0, 0, 1, 1, 1, 1, 1]), (1, [1]), (0, [1, 1, 1, 1, 1, 0, 1, 0, 0, 1, 1]), (2, [1, 1, 1, 1, 1, 0, 1, 0, 0]), (1, [0]), (0, [1, 1, 1, 1, 1, 1])].map (toItem (Try.f38.body.getD .skip))) [(0, .string s), (2, .pointer (some ⟨t2, 0, none⟩)), (4, .pointer (some ⟨c, 0, none⟩)), (5, .int .i64 p), (6, .int .i64 f), (7, .int .i64 n)] w := by
  exact block_spec Try.func38 Try.mixed (stops_cons (fun σ w h => by
      obtain ⟨s_, e0, h⟩ := dS_elim h
      obtain ⟨t2_, e1, h⟩ := dK_elim h
      obtain ⟨c_, e2, h⟩ := dK_elim h
      obtain ⟨p_, e3, h⟩ := dI_elim h
      obtain ⟨f_, e4, h⟩ := dI_elim h
      exact (hN1 s_ t2_ c_ p_ f_ w h).weaken (Sub.cons (Sub.cons (Sub.cons (Sub.cons (Sub.cons (Sub.nil _) e4) e3) e2) e1) e0)) stops_nil) (Eq.mp (api_DecodeCmd.B1_eq s t2 c p f n w N1  R ) h)
def api_DecodeCmd.B2 (t2 c : Nat) (t75 : Bool) (w : World)   (R : Int → Int → Int → ByteArray → ByteArray → ByteArray → Int → World → Prop) : Prop :=
  Bm t75 (
    Sts [.int .i64 (0 : Int), .int .i64 (0 : Int), .int .i64 (0 : Int), .string (ByteArray.mk #[]), .string (ByteArray.mk #[]), .string (ByteArray.mk #[])] ⟨t2, 0, none⟩ 0 w fun w1 =>
    LdI .i64 ⟨t2, 0, none⟩ w1 fun r_0 =>
    LdI .i64 ⟨t2, 1, none⟩ w1 fun r_1 =>
    LdI .i64 ⟨t2, 2, none⟩ w1 fun r_2 =>
    LdS ⟨t2, 3, none⟩ w1 fun r_3 =>
    LdS ⟨t2, 4, none⟩ w1 fun r_4 =>
    LdS ⟨t2, 5, none⟩ w1 fun r_5 =>
    R r_0 r_1 r_2 r_3 r_4 r_5 (9 : Int) w1) (
    LdI .i64 ⟨c, 0, none⟩ w fun x77_0 =>
    LdI .i64 ⟨c, 1, none⟩ w fun x77_1 =>
    LdI .i64 ⟨c, 2, none⟩ w fun x77_2 =>
    LdS ⟨c, 3, none⟩ w fun x77_3 =>
    LdS ⟨c, 4, none⟩ w fun x77_4 =>
    LdS ⟨c, 5, none⟩ w fun x77_5 =>
    Sts [.int .i64 x77_0, .int .i64 x77_1, .int .i64 x77_2, .string x77_3, .string x77_4, .string x77_5] ⟨t2, 0, none⟩ 0 w fun w2 =>
    LdI .i64 ⟨t2, 0, none⟩ w2 fun r_0_1 =>
    LdI .i64 ⟨t2, 1, none⟩ w2 fun r_1_1 =>
    LdI .i64 ⟨t2, 2, none⟩ w2 fun r_2_1 =>
    LdS ⟨t2, 3, none⟩ w2 fun r_3_1 =>
    LdS ⟨t2, 4, none⟩ w2 fun r_4_1 =>
    LdS ⟨t2, 5, none⟩ w2 fun r_5_1 =>
    R r_0_1 r_1_1 r_2_1 r_3_1 r_4_1 r_5_1 (0 : Int) w2)
theorem api_DecodeCmd.B2_eq (t2 c : Nat) (t75 : Bool) (w : World)   (R : Int → Int → Int → ByteArray → ByteArray → ByteArray → Int → World → Prop)  :
    (
  Bm t75 (
    Sts [.int .i64 (0 : Int), .int .i64 (0 : Int), .int .i64 (0 : Int), .string (ByteArray.mk #[]), .string (ByteArray.mk #[]), .string (ByteArray.mk #[])] ⟨t2, 0, none⟩ 0 w fun w1 =>
    LdI .i64 ⟨t2, 0, none⟩ w1 fun r_0 =>
    LdI .i64 ⟨t2, 1, none⟩ w1 fun r_1 =>
    LdI .i64 ⟨t2, 2, none⟩ w1 fun r_2 =>
    LdS ⟨t2, 3, none⟩ w1 fun r_3 =>
    LdS ⟨t2, 4, none⟩ w1 fun r_4 =>
    LdS ⟨t2, 5, none⟩ w1 fun r_5 =>
    R r_0 r_1 r_2 r_3 r_4 r_5 (9 : Int) w1) (
    LdI .i64 ⟨c, 0, none⟩ w fun x77_0 =>
    LdI .i64 ⟨c, 1, none⟩ w fun x77_1 =>
    LdI .i64 ⟨c, 2, none⟩ w fun x77_2 =>
    LdS ⟨c, 3, none⟩ w fun x77_3 =>
    LdS ⟨c, 4, none⟩ w fun x77_4 =>
    LdS ⟨c, 5, none⟩ w fun x77_5 =>
    Sts [.int .i64 x77_0, .int .i64 x77_1, .int .i64 x77_2, .string x77_3, .string x77_4, .string x77_5] ⟨t2, 0, none⟩ 0 w fun w2 =>
    LdI .i64 ⟨t2, 0, none⟩ w2 fun r_0_1 =>
    LdI .i64 ⟨t2, 1, none⟩ w2 fun r_1_1 =>
    LdI .i64 ⟨t2, 2, none⟩ w2 fun r_2_1 =>
    LdS ⟨t2, 3, none⟩ w2 fun r_3_1 =>
    LdS ⟨t2, 4, none⟩ w2 fun r_4_1 =>
    LdS ⟨t2, 5, none⟩ w2 fun r_5_1 =>
    R r_0_1 r_1_1 r_2_1 r_3_1 r_4_1 r_5_1 (0 : Int) w2)) = kstep Try.prog 78 Try.f38.results.toList (Try.f38.body.getD .skip) (api_DecodeCmd.RV R) (kvc Try.prog 78 Try.f38.results.toList (Try.f38.body.getD .skip) (api_DecodeCmd.RV R) [] 2000) [(0, [1, 1, 1, 1, 1, 1, 0, 1]), (0, [1, 1, 1, 1, 1, 1, 1])] [(2, .pointer (some ⟨t2, 0, none⟩)), (4, .pointer (some ⟨c, 0, none⟩)), (75, .bool t75)] w := by kernel_rfl
theorem api_DecodeCmd.B2_sound {R : Int → Int → Int → ByteArray → ByteArray → ByteArray → Int → World → Prop}  (t2 c : Nat) (t75 : Bool) (w : World) (h : api_DecodeCmd.B2 t2 c t75 w   R) :
    KW Try.prog 38 78 (api_DecodeCmd.RV R) ([(0, [1, 1, 1, 1, 1, 1, 0, 1]), (0, [1, 1, 1, 1, 1, 1, 1])].map (toItem (Try.f38.body.getD .skip))) [(2, .pointer (some ⟨t2, 0, none⟩)), (4, .pointer (some ⟨c, 0, none⟩)), (75, .bool t75)] w := by
  exact block_spec Try.func38 Try.mixed stops_nil (Eq.mp (api_DecodeCmd.B2_eq t2 c t75 w   R ) h)
def api_DecodeCmd.L1b (s : ByteArray) (t2 c : Nat) (p f : Int) (w : World)  (N1 : ByteArray → Nat → Nat → Int → Int → World → Prop) (R : Int → Int → Int → ByteArray → ByteArray → ByteArray → Int → World → Prop) : Prop :=
  Bm (decide (f < (3 : Int))) (
    Bm (decide (p ≥ ((s.size : Nat) : Int))) (
      Sts [.int .i64 (0 : Int), .int .i64 (0 : Int), .int .i64 (0 : Int), .string (ByteArray.mk #[]), .string (ByteArray.mk #[]), .string (ByteArray.mk #[])] ⟨t2, 0, none⟩ 0 w fun w1 =>
      LdI .i64 ⟨t2, 0, none⟩ w1 fun r_0 =>
      LdI .i64 ⟨t2, 1, none⟩ w1 fun r_1 =>
      LdI .i64 ⟨t2, 2, none⟩ w1 fun r_2 =>
      LdS ⟨t2, 3, none⟩ w1 fun r_3 =>
      LdS ⟨t2, 4, none⟩ w1 fun r_4 =>
      LdS ⟨t2, 5, none⟩ w1 fun r_5 =>
      R r_0 r_1 r_2 r_3 r_4 r_5 (9 : Int) w1) (
      (0 ≤ p ∧ p < ((s.size : Nat) : Int)) ∧
      Bm (decide ((IntKind.i64.wrap ((IntKind.i64.wrap (p + (1 : Int))) + (IntKind.i64.wrap (byteAt s p)))) > ((s.size : Nat) : Int))) (
        Sts [.int .i64 (0 : Int), .int .i64 (0 : Int), .int .i64 (0 : Int), .string (ByteArray.mk #[]), .string (ByteArray.mk #[]), .string (ByteArray.mk #[])] ⟨t2, 0, none⟩ 0 w fun w2 =>
        LdI .i64 ⟨t2, 0, none⟩ w2 fun r_0_1 =>
        LdI .i64 ⟨t2, 1, none⟩ w2 fun r_1_1 =>
        LdI .i64 ⟨t2, 2, none⟩ w2 fun r_2_1 =>
        LdS ⟨t2, 3, none⟩ w2 fun r_3_1 =>
        LdS ⟨t2, 4, none⟩ w2 fun r_4_1 =>
        LdS ⟨t2, 5, none⟩ w2 fun r_5_1 =>
        R r_0_1 r_1_1 r_2_1 r_3_1 r_4_1 r_5_1 (9 : Int) w2) (
        (0 ≤ (IntKind.i64.wrap ((IntKind.i64.wrap (p + (1 : Int))) + (IntKind.i64.wrap (byteAt s p)))) ∧ (IntKind.i64.wrap ((IntKind.i64.wrap (p + (1 : Int))) + (IntKind.i64.wrap (byteAt s p)))) ≤ ((s.size : Nat) : Int)) ∧
        (0 ≤ (IntKind.i64.wrap (p + (1 : Int))) ∧ (IntKind.i64.wrap (p + (1 : Int))) ≤ (IntKind.i64.wrap ((IntKind.i64.wrap (p + (1 : Int))) + (IntKind.i64.wrap (byteAt s p))))) ∧
        Bm (f == (0 : Int)) (
          Sts [.string (s.extract (IntKind.i64.wrap (p + (1 : Int))).toNat (IntKind.i64.wrap ((IntKind.i64.wrap (p + (1 : Int))) + (IntKind.i64.wrap (byteAt s p)))).toNat)] ⟨c, 3, none⟩ 0 w fun w3 =>
          api_DecodeCmd.B1 s t2 c p f (IntKind.i64.wrap (byteAt s p)) w3 N1 R) (
          Bm (f == (1 : Int)) (
            Sts [.string (s.extract (IntKind.i64.wrap (p + (1 : Int))).toNat (IntKind.i64.wrap ((IntKind.i64.wrap (p + (1 : Int))) + (IntKind.i64.wrap (byteAt s p)))).toNat)] ⟨c, 4, none⟩ 0 w fun w4 =>
            api_DecodeCmd.B1 s t2 c p f (IntKind.i64.wrap (byteAt s p)) w4 N1 R) (
            Sts [.string (s.extract (IntKind.i64.wrap (p + (1 : Int))).toNat (IntKind.i64.wrap ((IntKind.i64.wrap (p + (1 : Int))) + (IntKind.i64.wrap (byteAt s p)))).toNat)] ⟨c, 5, none⟩ 0 w fun w5 =>
            api_DecodeCmd.B1 s t2 c p f (IntKind.i64.wrap (byteAt s p)) w5 N1 R))))) (
    Bm (p != ((s.size : Nat) : Int)) (
      api_DecodeCmd.B2 t2 c true w  R) (
      LdI .i64 ⟨c, 0, none⟩ w fun x72_0 =>
      LdI .i64 ⟨c, 1, none⟩ w fun x72_1 =>
      LdI .i64 ⟨c, 2, none⟩ w fun x72_2 =>
      LdS ⟨c, 3, none⟩ w fun x72_3 =>
      LdS ⟨c, 4, none⟩ w fun x72_4 =>
      LdS ⟨c, 5, none⟩ w fun x72_5 =>
      api_CmdOK.Call x72_0 x72_1 x72_2 x72_3 x72_4 x72_5 w fun r73 w6 =>
      api_DecodeCmd.B2 t2 c (!r73) w6  R))
theorem api_DecodeCmd.L1b_eq (s : ByteArray) (t2 c : Nat) (p f : Int) (w : World)  (N1 : ByteArray → Nat → Nat → Int → Int → World → Prop) (R : Int → Int → Int → ByteArray → ByteArray → ByteArray → Int → World → Prop) (sB1 : ByteArray → Nat → Nat → Int → Int → Int → World → Prop) (sB2 : Nat → Nat → Bool → World → Prop) :
    (
  Bm (decide (f < (3 : Int))) (
    Bm (decide (p ≥ ((s.size : Nat) : Int))) (
      Sts [.int .i64 (0 : Int), .int .i64 (0 : Int), .int .i64 (0 : Int), .string (ByteArray.mk #[]), .string (ByteArray.mk #[]), .string (ByteArray.mk #[])] ⟨t2, 0, none⟩ 0 w fun w1 =>
      LdI .i64 ⟨t2, 0, none⟩ w1 fun r_0 =>
      LdI .i64 ⟨t2, 1, none⟩ w1 fun r_1 =>
      LdI .i64 ⟨t2, 2, none⟩ w1 fun r_2 =>
      LdS ⟨t2, 3, none⟩ w1 fun r_3 =>
      LdS ⟨t2, 4, none⟩ w1 fun r_4 =>
      LdS ⟨t2, 5, none⟩ w1 fun r_5 =>
      R r_0 r_1 r_2 r_3 r_4 r_5 (9 : Int) w1) (
      (0 ≤ p ∧ p < ((s.size : Nat) : Int)) ∧
      Bm (decide ((IntKind.i64.wrap ((IntKind.i64.wrap (p + (1 : Int))) + (IntKind.i64.wrap (byteAt s p)))) > ((s.size : Nat) : Int))) (
        Sts [.int .i64 (0 : Int), .int .i64 (0 : Int), .int .i64 (0 : Int), .string (ByteArray.mk #[]), .string (ByteArray.mk #[]), .string (ByteArray.mk #[])] ⟨t2, 0, none⟩ 0 w fun w2 =>
        LdI .i64 ⟨t2, 0, none⟩ w2 fun r_0_1 =>
        LdI .i64 ⟨t2, 1, none⟩ w2 fun r_1_1 =>
        LdI .i64 ⟨t2, 2, none⟩ w2 fun r_2_1 =>
        LdS ⟨t2, 3, none⟩ w2 fun r_3_1 =>
        LdS ⟨t2, 4, none⟩ w2 fun r_4_1 =>
        LdS ⟨t2, 5, none⟩ w2 fun r_5_1 =>
        R r_0_1 r_1_1 r_2_1 r_3_1 r_4_1 r_5_1 (9 : Int) w2) (
        (0 ≤ (IntKind.i64.wrap ((IntKind.i64.wrap (p + (1 : Int))) + (IntKind.i64.wrap (byteAt s p)))) ∧ (IntKind.i64.wrap ((IntKind.i64.wrap (p + (1 : Int))) + (IntKind.i64.wrap (byteAt s p)))) ≤ ((s.size : Nat) : Int)) ∧
        (0 ≤ (IntKind.i64.wrap (p + (1 : Int))) ∧ (IntKind.i64.wrap (p + (1 : Int))) ≤ (IntKind.i64.wrap ((IntKind.i64.wrap (p + (1 : Int))) + (IntKind.i64.wrap (byteAt s p))))) ∧
        Bm (f == (0 : Int)) (
          Sts [.string (s.extract (IntKind.i64.wrap (p + (1 : Int))).toNat (IntKind.i64.wrap ((IntKind.i64.wrap (p + (1 : Int))) + (IntKind.i64.wrap (byteAt s p)))).toNat)] ⟨c, 3, none⟩ 0 w fun w3 =>
          sB1 s t2 c p f (IntKind.i64.wrap (byteAt s p)) w3) (
          Bm (f == (1 : Int)) (
            Sts [.string (s.extract (IntKind.i64.wrap (p + (1 : Int))).toNat (IntKind.i64.wrap ((IntKind.i64.wrap (p + (1 : Int))) + (IntKind.i64.wrap (byteAt s p)))).toNat)] ⟨c, 4, none⟩ 0 w fun w4 =>
            sB1 s t2 c p f (IntKind.i64.wrap (byteAt s p)) w4) (
            Sts [.string (s.extract (IntKind.i64.wrap (p + (1 : Int))).toNat (IntKind.i64.wrap ((IntKind.i64.wrap (p + (1 : Int))) + (IntKind.i64.wrap (byteAt s p)))).toNat)] ⟨c, 5, none⟩ 0 w fun w5 =>
            sB1 s t2 c p f (IntKind.i64.wrap (byteAt s p)) w5))))) (
    Bm (p != ((s.size : Nat) : Int)) (
      sB2 t2 c true w) (
      LdI .i64 ⟨c, 0, none⟩ w fun x72_0 =>
      LdI .i64 ⟨c, 1, none⟩ w fun x72_1 =>
      LdI .i64 ⟨c, 2, none⟩ w fun x72_2 =>
      LdS ⟨c, 3, none⟩ w fun x72_3 =>
      LdS ⟨c, 4, none⟩ w fun x72_4 =>
      LdS ⟨c, 5, none⟩ w fun x72_5 =>
      api_CmdOK.Call x72_0 x72_1 x72_2 x72_3 x72_4 x72_5 w fun r73 w6 =>
      sB2 t2 c (!r73) w6))) = kstep Try.prog 78 Try.f38.results.toList (Try.f38.body.getD .skip) (api_DecodeCmd.RV R) (kvc Try.prog 78 Try.f38.results.toList (Try.f38.body.getD .skip) (api_DecodeCmd.RV R) [([(0, [1, 1, 1, 1, 1, 0, 1, 0, 0, 1, 0, 0, 1, 1, 1, 1, 1]), (1, [1]), (0, [1, 1, 1, 1, 1, 0, 1, 0, 0, 1, 1]), (2, [1, 1, 1, 1, 1, 0, 1, 0, 0]), (1, [0]), (0, [1, 1, 1, 1, 1, 1])], fun σ w => dS (slotOf σ 0) fun s_ => dK (slotOf σ 2) fun t2_ => dK (slotOf σ 4) fun c_ => dI .i64 (slotOf σ 5) fun p_ => dI .i64 (slotOf σ 6) fun f_ => dI .i64 (slotOf σ 7) fun n_ => sB1 s_ t2_ c_ p_ f_ n_ w),
    ([(0, [1, 1, 1, 1, 1, 1, 0, 1]), (0, [1, 1, 1, 1, 1, 1, 1])], fun σ w => dK (slotOf σ 2) fun t2_ => dK (slotOf σ 4) fun c_ => dB (slotOf σ 75) fun t75_ => sB2 t2_ c_ t75_ w)] 2000) [(0, [1, 1, 1, 1, 1, 0, 1, 0, 0]), (2, [1, 1, 1, 1, 1, 0, 1, 0, 0]), (1, [0]), (0, [1, 1, 1, 1, 1, 1])] [(0, .string s), (2, .pointer (some ⟨t2, 0, none⟩)), (4, .pointer (some ⟨c, 0, none⟩)), (5, .int .i64 p), (6, .int .i64 f)] w := by kernel_rfl
theorem api_DecodeCmd.L1b_sound {R : Int → Int → Int → ByteArray → ByteArray → ByteArray → Int → World → Prop} {N1 : ByteArray → Nat → Nat → Int → Int → World → Prop} (hN1 : ∀ s t2 c p f w, N1 s t2 c p f w → KW Try.prog 38 78 (api_DecodeCmd.RV R) ([(0, [1, 1, 1, 1, 1, 0, 1, 0, 0]), (2, [1, 1, 1, 1, 1, 0, 1, 0, 0]), (1, [0]), (0, [1, 1, 1, 1, 1, 1])].map (toItem (Try.f38.body.getD .skip))) [(0, .string s), (2, .pointer (some ⟨t2, 0, none⟩)), (4, .pointer (some ⟨c, 0, none⟩)), (5, .int .i64 p), (6, .int .i64 f)] w) (s : ByteArray) (t2 c : Nat) (p f : Int) (w : World) (h : api_DecodeCmd.L1b s t2 c p f w  N1 R) :
    KW Try.prog 38 78 (api_DecodeCmd.RV R) ([(0, [1, 1, 1, 1, 1, 0, 1, 0, 0]), (2, [1, 1, 1, 1, 1, 0, 1, 0, 0]), (1, [0]), (0, [1, 1, 1, 1, 1, 1])].map (toItem (Try.f38.body.getD .skip))) [(0, .string s), (2, .pointer (some ⟨t2, 0, none⟩)), (4, .pointer (some ⟨c, 0, none⟩)), (5, .int .i64 p), (6, .int .i64 f)] w := by
  exact block_spec Try.func38 Try.mixed (stops_cons (fun σ w h => by
      obtain ⟨s_, e0, h⟩ := dS_elim h
      obtain ⟨t2_, e1, h⟩ := dK_elim h
      obtain ⟨c_, e2, h⟩ := dK_elim h
      obtain ⟨p_, e3, h⟩ := dI_elim h
      obtain ⟨f_, e4, h⟩ := dI_elim h
      obtain ⟨n_, e5, h⟩ := dI_elim h
      exact (api_DecodeCmd.B1_sound hN1 s_ t2_ c_ p_ f_ n_ w h).weaken (Sub.cons (Sub.cons (Sub.cons (Sub.cons (Sub.cons (Sub.cons (Sub.nil _) e5) e4) e3) e2) e1) e0)) (stops_cons (fun σ w h => by
      obtain ⟨t2_, e0, h⟩ := dK_elim h
      obtain ⟨c_, e1, h⟩ := dK_elim h
      obtain ⟨t75_, e2, h⟩ := dB_elim h
      exact (api_DecodeCmd.B2_sound  t2_ c_ t75_ w h).weaken (Sub.cons (Sub.cons (Sub.cons (Sub.nil _) e2) e1) e0)) stops_nil)) (Eq.mp (api_DecodeCmd.L1b_eq s t2 c p f w  N1 R (fun s_ t2_ c_ p_ f_ n_ w => api_DecodeCmd.B1 s_ t2_ c_ p_ f_ n_ w N1 R) (fun t2_ c_ t75_ w => api_DecodeCmd.B2 t2_ c_ t75_ w  R)) h)
def api_DecodeCmd.L1 (s : ByteArray) (t2 c : Nat) (p f : Int) (w : World)  (R : Int → Int → Int → ByteArray → ByteArray → ByteArray → Int → World → Prop) : Prop :=
  ∃ (I : Nat → ByteArray → Nat → Nat → Int → Int → World → Prop) (m : Nat), I m s t2 c p f w ∧ ∀ m s t2 c p f w, I m s t2 c p f w → api_DecodeCmd.L1b s t2 c p f w  (fun s' t2' c' p' f' w' => ∃ m', m' < m ∧ I m' s' t2' c' p' f' w') R
theorem api_DecodeCmd.L1_sound {R : Int → Int → Int → ByteArray → ByteArray → ByteArray → Int → World → Prop}  (s : ByteArray) (t2 c : Nat) (p f : Int) (w : World) (h : api_DecodeCmd.L1 s t2 c p f w  R) :
    KW Try.prog 38 78 (api_DecodeCmd.RV R) ([(0, [1, 1, 1, 1, 1, 0, 1, 0, 0]), (2, [1, 1, 1, 1, 1, 0, 1, 0, 0]), (1, [0]), (0, [1, 1, 1, 1, 1, 1])].map (toItem (Try.f38.body.getD .skip))) [(0, .string s), (2, .pointer (some ⟨t2, 0, none⟩)), (4, .pointer (some ⟨c, 0, none⟩)), (5, .int .i64 p), (6, .int .i64 f)] w := by
  obtain ⟨I, m, hBase, hr⟩ := h
  refine KW.loop (fun m σ w => ∃ (s : ByteArray) (t2 c : Nat) (p f : Int), σ = [(0, .string s), (2, .pointer (some ⟨t2, 0, none⟩)), (4, .pointer (some ⟨c, 0, none⟩)), (5, .int .i64 p), (6, .int .i64 f)] ∧ I m s t2 c p f w) ?_ m _ w ⟨s, t2, c, p, f, rfl, hBase⟩
  rintro m ih σ w ⟨s, t2, c, p, f, rfl, hI⟩
  exact api_DecodeCmd.L1b_sound  (N1 := fun s' t2' c' p' f' w' => ∃ m', m' < m ∧ I m' s' t2' c' p' f' w') (fun s' t2' c' p' f' w' hx => by obtain ⟨m', hlt, hI'⟩ := hx; exact ih m' hlt _ w' ⟨s', t2', c', p', f', rfl, hI'⟩) s t2 c p f w (hr m s t2 c p f w hI)
def api_DecodeCmd.B0 (s : ByteArray) (w : World)   (R : Int → Int → Int → ByteArray → ByteArray → ByteArray → Int → World → Prop) : Prop :=
  New (.cells #[.int .i64 (0 : Int), .int .i64 (0 : Int), .int .i64 (0 : Int), .string (ByteArray.mk #[]), .string (ByteArray.mk #[]), .string (ByteArray.mk #[])] 71) w fun b2 w1 =>
  New (.cells #[.int .i64 (0 : Int), .int .i64 (0 : Int), .int .i64 (0 : Int), .string (ByteArray.mk #[]), .string (ByteArray.mk #[]), .string (ByteArray.mk #[])] 71) w1 fun c_ w2 =>
  Bm (decide (((s.size : Nat) : Int) < (13 : Int))) (
    Sts [.int .i64 (0 : Int), .int .i64 (0 : Int), .int .i64 (0 : Int), .string (ByteArray.mk #[]), .string (ByteArray.mk #[]), .string (ByteArray.mk #[])] ⟨b2, 0, none⟩ 0 w2 fun w3 =>
    LdI .i64 ⟨b2, 0, none⟩ w3 fun r_0 =>
    LdI .i64 ⟨b2, 1, none⟩ w3 fun r_1 =>
    LdI .i64 ⟨b2, 2, none⟩ w3 fun r_2 =>
    LdS ⟨b2, 3, none⟩ w3 fun r_3 =>
    LdS ⟨b2, 4, none⟩ w3 fun r_4 =>
    LdS ⟨b2, 5, none⟩ w3 fun r_5 =>
    R r_0 r_1 r_2 r_3 r_4 r_5 (9 : Int) w3) (
    (0 ≤ (0 : Int) ∧ (0 : Int) < ((s.size : Nat) : Int)) ∧
    (0 ≤ (1 : Int) ∧ (1 : Int) < ((s.size : Nat) : Int)) ∧
    api_GetU64.Call s (2 : Int) w2.drew fun r20 w4 =>
    Sts [.int .i64 (IntKind.i64.wrap (byteAt s (0 : Int)))] ⟨c_, 0, none⟩ 0 w4 fun w5 =>
    Sts [.int .i64 (IntKind.i64.wrap (byteAt s (1 : Int)))] ⟨c_, 1, none⟩ 0 w5 fun w6 =>
    Sts [.int .i64 r20] ⟨c_, 2, none⟩ 0 w6 fun w7 =>
    api_DecodeCmd.L1 s b2 c_ (10 : Int) (0 : Int) w7  R)
theorem api_DecodeCmd.B0_eq (s : ByteArray) (w : World)   (R : Int → Int → Int → ByteArray → ByteArray → ByteArray → Int → World → Prop) (sL1 : ByteArray → Nat → Nat → Int → Int → World → Prop) :
    (
  New (.cells #[.int .i64 (0 : Int), .int .i64 (0 : Int), .int .i64 (0 : Int), .string (ByteArray.mk #[]), .string (ByteArray.mk #[]), .string (ByteArray.mk #[])] 71) w fun b2 w1 =>
  New (.cells #[.int .i64 (0 : Int), .int .i64 (0 : Int), .int .i64 (0 : Int), .string (ByteArray.mk #[]), .string (ByteArray.mk #[]), .string (ByteArray.mk #[])] 71) w1 fun c_ w2 =>
  Bm (decide (((s.size : Nat) : Int) < (13 : Int))) (
    Sts [.int .i64 (0 : Int), .int .i64 (0 : Int), .int .i64 (0 : Int), .string (ByteArray.mk #[]), .string (ByteArray.mk #[]), .string (ByteArray.mk #[])] ⟨b2, 0, none⟩ 0 w2 fun w3 =>
    LdI .i64 ⟨b2, 0, none⟩ w3 fun r_0 =>
    LdI .i64 ⟨b2, 1, none⟩ w3 fun r_1 =>
    LdI .i64 ⟨b2, 2, none⟩ w3 fun r_2 =>
    LdS ⟨b2, 3, none⟩ w3 fun r_3 =>
    LdS ⟨b2, 4, none⟩ w3 fun r_4 =>
    LdS ⟨b2, 5, none⟩ w3 fun r_5 =>
    R r_0 r_1 r_2 r_3 r_4 r_5 (9 : Int) w3) (
    (0 ≤ (0 : Int) ∧ (0 : Int) < ((s.size : Nat) : Int)) ∧
    (0 ≤ (1 : Int) ∧ (1 : Int) < ((s.size : Nat) : Int)) ∧
    api_GetU64.Call s (2 : Int) w2.drew fun r20 w4 =>
    Sts [.int .i64 (IntKind.i64.wrap (byteAt s (0 : Int)))] ⟨c_, 0, none⟩ 0 w4 fun w5 =>
    Sts [.int .i64 (IntKind.i64.wrap (byteAt s (1 : Int)))] ⟨c_, 1, none⟩ 0 w5 fun w6 =>
    Sts [.int .i64 r20] ⟨c_, 2, none⟩ 0 w6 fun w7 =>
    sL1 s b2 c_ (10 : Int) (0 : Int) w7)) = kstep Try.prog 78 Try.f38.results.toList (Try.f38.body.getD .skip) (api_DecodeCmd.RV R) (kvc Try.prog 78 Try.f38.results.toList (Try.f38.body.getD .skip) (api_DecodeCmd.RV R) [([(0, [1, 1, 1, 1, 1, 0, 1, 0, 0]), (2, [1, 1, 1, 1, 1, 0, 1, 0, 0]), (1, [0]), (0, [1, 1, 1, 1, 1, 1])], fun σ w => dS (slotOf σ 0) fun s_ => dK (slotOf σ 2) fun t2_ => dK (slotOf σ 4) fun c_ => dI .i64 (slotOf σ 5) fun p_ => dI .i64 (slotOf σ 6) fun f_ => sL1 s_ t2_ c_ p_ f_ w)] 2000) [(0, [])] [(0, .string s)] w := by kernel_rfl
theorem api_DecodeCmd.B0_sound {R : Int → Int → Int → ByteArray → ByteArray → ByteArray → Int → World → Prop}  (s : ByteArray) (w : World) (h : api_DecodeCmd.B0 s w   R) :
    KW Try.prog 38 78 (api_DecodeCmd.RV R) ([(0, [])].map (toItem (Try.f38.body.getD .skip))) [(0, .string s)] w := by
  exact block_spec Try.func38 Try.mixed (stops_cons (fun σ w h => by
      obtain ⟨s_, e0, h⟩ := dS_elim h
      obtain ⟨t2_, e1, h⟩ := dK_elim h
      obtain ⟨c_, e2, h⟩ := dK_elim h
      obtain ⟨p_, e3, h⟩ := dI_elim h
      obtain ⟨f_, e4, h⟩ := dI_elim h
      exact (api_DecodeCmd.L1_sound  s_ t2_ c_ p_ f_ w h).weaken (Sub.cons (Sub.cons (Sub.cons (Sub.cons (Sub.cons (Sub.nil _) e4) e3) e2) e1) e0)) stops_nil) (Eq.mp (api_DecodeCmd.B0_eq s w   R (fun s_ t2_ c_ p_ f_ w => api_DecodeCmd.L1 s_ t2_ c_ p_ f_ w  R)) h)
theorem api_DecodeCmd.sound (s : ByteArray) (w : World) (R : Int → Int → Int → ByteArray → ByteArray → ByteArray → Int → World → Prop) (h : api_DecodeCmd.B0 s w R) : api_DecodeCmd.Call s w R := by
  have hc := calls_of_block (args := #[.string s]) Try.func38 (body := (Try.f38.body.getD .skip)) (by kernel_rfl) (by kernel_rfl) (args_slot _) (api_DecodeCmd.B0_sound s w h)
  exact hc.mono fun e w' he => by
    obtain ⟨v, rfl, hv⟩ := he
    exact api_DecodeCmd.RV_elim hv
end Go.Proofs.Qxb6500429a
