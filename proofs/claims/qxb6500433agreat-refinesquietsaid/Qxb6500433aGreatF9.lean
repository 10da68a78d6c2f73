import Derived.Test.Qxb6500433aGreatSig
set_option maxRecDepth 100000
set_option linter.unusedVariables false
open Go.Vc
namespace Go.Proofs.Qxb6500433aGreat
def sync_Sync_flush.L1b (s out_b : Option Addr) (out_l out_c : Nat) (i : Int) (w : World)  (N1 : Option Addr → Option Addr → Nat → Nat → Int → World → Prop) (R : Option Addr → Nat → Nat → World → Prop) : Prop :=
  Pn s fun a =>
  LdI .i64 (a.add 41) w fun x19 =>
  Bm (decide (i < x19)) (
    Pn s fun a_1 =>
    (0 ≤ i ∧ i < ((3 : Nat) : Int)) ∧
    LdI .i64 (Addr.add (a_1.add 11) (i.toNat * 10)) w fun x30_0 =>
    LdI .i64 ((Addr.add (a_1.add 11) (i.toNat * 10)).add 1) w fun x30_1 =>
    LdI .i64 ((Addr.add (a_1.add 11) (i.toNat * 10)).add 2) w fun x30_2 =>
    LdI .i64 ((Addr.add (a_1.add 11) (i.toNat * 10)).add 3) w fun x30_3 =>
    LdI .i64 ((Addr.add (a_1.add 11) (i.toNat * 10)).add 4) w fun x30_4 =>
    LdI .i64 ((Addr.add (a_1.add 11) (i.toNat * 10)).add 5) w fun x30_5 =>
    LdI .i64 ((Addr.add (a_1.add 11) (i.toNat * 10)).add 6) w fun x30_6 =>
    LdB ((Addr.add (a_1.add 11) (i.toNat * 10)).add 7) w fun x30_7 =>
    LdL ((Addr.add (a_1.add 11) (i.toNat * 10)).add 8) w fun x30_8_b x30_8_l x30_8_c =>
    LdS ((Addr.add (a_1.add 11) (i.toNat * 10)).add 9) w fun x30_9 =>
    Pn out_b fun a_2 =>
    (0 ≤ i ∧ i < ((out_l : Nat) : Int)) ∧
    Sts [.int .i64 x30_0, .int .i64 x30_1, .int .i64 x30_2, .int .i64 x30_3, .int .i64 x30_4, .int .i64 x30_5, .int .i64 x30_6, .bool x30_7, .slice x30_8_b x30_8_l x30_8_c, .string x30_9] (Addr.add a_2 (i.toNat * 10)) 0 w fun w1 =>
    Pn s fun a_3 =>
    (0 ≤ i ∧ i < ((3 : Nat) : Int)) ∧
    Sts [.int .i64 (0 : Int), .int .i64 (0 : Int), .int .i64 (0 : Int), .int .i64 (0 : Int), .int .i64 (0 : Int), .int .i64 (0 : Int), .int .i64 (0 : Int), .bool false, .slice none 0 0, .string (ByteArray.mk #[])] (Addr.add (a_3.add 11) (i.toNat * 10)) 0 w1 fun w2 =>
    N1 s out_b out_l out_c (IntKind.i64.wrap (i + (1 : Int))) w2) (
    Pn s fun a_4 =>
    Sts [.int .i64 (0 : Int)] (a_4.add 41) 0 w fun w3 =>
    R out_b out_l out_c w3)
theorem sync_Sync_flush.L1b_eq (s out_b : Option Addr) (out_l out_c : Nat) (i : Int) (w : World)  (N1 : Option Addr → Option Addr → Nat → Nat → Int → World → Prop) (R : Option Addr → Nat → Nat → World → Prop)  :
    (
  Pn s fun a =>
  LdI .i64 (a.add 41) w fun x19 =>
  Bm (decide (i < x19)) (
    Pn s fun a_1 =>
    (0 ≤ i ∧ i < ((3 : Nat) : Int)) ∧
    LdI .i64 (Addr.add (a_1.add 11) (i.toNat * 10)) w fun x30_0 =>
    LdI .i64 ((Addr.add (a_1.add 11) (i.toNat * 10)).add 1) w fun x30_1 =>
    LdI .i64 ((Addr.add (a_1.add 11) (i.toNat * 10)).add 2) w fun x30_2 =>
    LdI .i64 ((Addr.add (a_1.add 11) (i.toNat * 10)).add 3) w fun x30_3 =>
    LdI .i64 ((Addr.add (a_1.add 11) (i.toNat * 10)).add 4) w fun x30_4 =>
    LdI .i64 ((Addr.add (a_1.add 11) (i.toNat * 10)).add 5) w fun x30_5 =>
    LdI .i64 ((Addr.add (a_1.add 11) (i.toNat * 10)).add 6) w fun x30_6 =>
    LdB ((Addr.add (a_1.add 11) (i.toNat * 10)).add 7) w fun x30_7 =>
    LdL ((Addr.add (a_1.add 11) (i.toNat * 10)).add 8) w fun x30_8_b x30_8_l x30_8_c =>
    LdS ((Addr.add (a_1.add 11) (i.toNat * 10)).add 9) w fun x30_9 =>
    Pn out_b fun a_2 =>
    (0 ≤ i ∧ i < ((out_l : Nat) : Int)) ∧
    Sts [.int .i64 x30_0, .int .i64 x30_1, .int .i64 x30_2, .int .i64 x30_3, .int .i64 x30_4, .int .i64 x30_5, .int .i64 x30_6, .bool x30_7, .slice x30_8_b x30_8_l x30_8_c, .string x30_9] (Addr.add a_2 (i.toNat * 10)) 0 w fun w1 =>
    Pn s fun a_3 =>
    (0 ≤ i ∧ i < ((3 : Nat) : Int)) ∧
    Sts [.int .i64 (0 : Int), .int .i64 (0 : Int), .int .i64 (0 : Int), .int .i64 (0 : Int), .int .i64 (0 : Int), .int .i64 (0 : Int), .int .i64 (0 : Int), .bool false, .slice none 0 0, .string (ByteArray.mk #[])] (Addr.add (a_3.add 11) (i.toNat * 10)) 0 w1 fun w2 =>
    N1 s out_b out_l out_c (IntKind.i64.wrap (i + (1 : Int))) w2) (
    Pn s fun a_4 =>
    Sts [.int .i64 (0 : Int)] (a_4.add 41) 0 w fun w3 =>
    R out_b out_l out_c w3)) = kstep Tryz.prog 42 Tryz.f108.results.toList (Tryz.f108.body.getD .skip) (sync_Sync_flush.RV R) (kvc Tryz.prog 42 Tryz.f108.results.toList (Tryz.f108.body.getD .skip) (sync_Sync_flush.RV R) [([(0, [1, 1, 1, 0, 1, 0, 0]), (2, [1, 1, 1, 0, 1, 0, 0]), (1, [0]), (0, [1, 1, 1, 1])], fun σ w => dP (slotOf σ 0) fun s_ => dL (slotOf σ 3) fun out_b_ out_l_ out_c_ => dI .i64 (slotOf σ 4) fun i_ => N1 s_ out_b_ out_l_ out_c_ i_ w)] 2000) [(0, [1, 1, 1, 0, 1, 0, 0]), (2, [1, 1, 1, 0, 1, 0, 0]), (1, [0]), (0, [1, 1, 1, 1])] [(0, .pointer s), (3, .slice out_b out_l out_c), (4, .int .i64 i)] w := by kernel_rfl
theorem sync_Sync_flush.L1b_sound {R : Option Addr → Nat → Nat → World → Prop} {N1 : Option Addr → Option Addr → Nat → Nat → Int → World → Prop} (hN1 : ∀ s out_b out_l out_c i w, N1 s out_b out_l out_c i w → KW Tryz.prog 108 42 (sync_Sync_flush.RV R) ([(0, [1, 1, 1, 0, 1, 0, 0]), (2, [1, 1, 1, 0, 1, 0, 0]), (1, [0]), (0, [1, 1, 1, 1])].map (toItem (Tryz.f108.body.getD .skip))) [(0, .pointer s), (3, .slice out_b out_l out_c), (4, .int .i64 i)] w) (s out_b : Option Addr) (out_l out_c : Nat) (i : Int) (w : World) (h : sync_Sync_flush.L1b s out_b out_l out_c i w  N1 R) :
    KW Tryz.prog 108 42 (sync_Sync_flush.RV R) ([(0, [1, 1, 1, 0, 1, 0, 0]), (2, [1, 1, 1, 0, 1, 0, 0]), (1, [0]), (0, [1, 1, 1, 1])].map (toItem (Tryz.f108.body.getD .skip))) [(0, .pointer s), (3, .slice out_b out_l out_c), (4, .int .i64 i)] w := by
  exact block_spec Tryz.func108 Tryz.mixed (stops_cons (fun σ w h => by
      obtain ⟨s_, e0, h⟩ := dP_elim h
      obtain ⟨out_b_, out_l_, out_c_, e1, h⟩ := dL_elim h
      obtain ⟨i_, e2, h⟩ := dI_elim h
      exact (hN1 s_ out_b_ out_l_ out_c_ i_ w h).weaken (Sub.cons (Sub.cons (Sub.cons (Sub.nil _) e2) e1) e0)) stops_nil) (Eq.mp (sync_Sync_flush.L1b_eq s out_b out_l out_c i w  N1 R ) h)
def sync_Sync_flush.L1 (s out_b : Option Addr) (out_l out_c : Nat) (i : Int) (w : World)  (R : Option Addr → Nat → Nat → World → Prop) : Prop :=
  ∃ (I : Nat → Option Addr → Option Addr → Nat → Nat → Int → World → Prop) (m : Nat), I m s out_b out_l out_c i w ∧ ∀ m s out_b out_l out_c i w, I m s out_b out_l out_c i w → sync_Sync_flush.L1b s out_b out_l out_c i w  (fun s' out_b' out_l' out_c' i' w' => ∃ m', m' < m ∧ I m' s' out_b' out_l' out_c' i' w') R
theorem sync_Sync_flush.L1_sound {R : Option Addr → Nat → Nat → World → Prop}  (s out_b : Option Addr) (out_l out_c : Nat) (i : Int) (w : World) (h : sync_Sync_flush.L1 s out_b out_l out_c i w  R) :
    KW Tryz.prog 108 42 (sync_Sync_flush.RV R) ([(0, [1, 1, 1, 0, 1, 0, 0]), (2, [1, 1, 1, 0, 1, 0, 0]), (1, [0]), (0, [1, 1, 1, 1])].map (toItem (Tryz.f108.body.getD .skip))) [(0, .pointer s), (3, .slice out_b out_l out_c), (4, .int .i64 i)] w := by
  obtain ⟨I, m, hBase, hr⟩ := h
  refine KW.loop (fun m σ w => ∃ (s out_b : Option Addr) (out_l out_c : Nat) (i : Int), σ = [(0, .pointer s), (3, .slice out_b out_l out_c), (4, .int .i64 i)] ∧ I m s out_b out_l out_c i w) ?_ m _ w ⟨s, out_b, out_l, out_c, i, rfl, hBase⟩
  rintro m ih σ w ⟨s, out_b, out_l, out_c, i, rfl, hI⟩
  exact sync_Sync_flush.L1b_sound  (N1 := fun s' out_b' out_l' out_c' i' w' => ∃ m', m' < m ∧ I m' s' out_b' out_l' out_c' i' w') (fun s' out_b' out_l' out_c' i' w' hx => by obtain ⟨m', hlt, hI'⟩ := hx; exact ih m' hlt _ w' ⟨s', out_b', out_l', out_c', i', rfl, hI'⟩) s out_b out_l out_c i w (hr m s out_b out_l out_c i w hI)
def sync_Sync_flush.B0 (s : Option Addr) (w : World)   (R : Option Addr → Nat → Nat → World → Prop) : Prop :=
  Pn s fun a =>
  LdI .i64 (a.add 41) w fun x8 =>
  Bm (x8 == (0 : Int)) (
    R none 0 0 w) (
    Pn s fun a_1 =>
    LdI .i64 (a_1.add 41) w fun x13 =>
    Make 40 (.agg #[.int .i64 (0 : Int), .int .i64 (0 : Int), .int .i64 (0 : Int), .int .i64 (0 : Int), .int .i64 (0 : Int), .int .i64 (0 : Int), .int .i64 (0 : Int), .bool false, .slice none 0 0, .string (ByteArray.mk #[])]) 10 104 x13 x13 w fun b14 w1 =>
    sync_Sync_flush.L1 s (some ⟨b14, 0, none⟩) x13.toNat x13.toNat (0 : Int) w1  R)
theorem sync_Sync_flush.B0_eq (s : Option Addr) (w : World)   (R : Option Addr → Nat → Nat → World → Prop) (sL1 : Option Addr → Option Addr → Nat → Nat → Int → World → Prop) :
    (
  Pn s fun a =>
  LdI .i64 (a.add 41) w fun x8 =>
  Bm (x8 == (0 : Int)) (
    R none 0 0 w) (
    Pn s fun a_1 =>
    LdI .i64 (a_1.add 41) w fun x13 =>
    Make 40 (.agg #[.int .i64 (0 : Int), .int .i64 (0 : Int), .int .i64 (0 : Int), .int .i64 (0 : Int), .int .i64 (0 : Int), .int .i64 (0 : Int), .int .i64 (0 : Int), .bool false, .slice none 0 0, .string (ByteArray.mk #[])]) 10 104 x13 x13 w fun b14 w1 =>
    sL1 s (some ⟨b14, 0, none⟩) x13.toNat x13.toNat (0 : Int) w1)) = kstep Tryz.prog 42 Tryz.f108.results.toList (Tryz.f108.body.getD .skip) (sync_Sync_flush.RV R) (kvc Tryz.prog 42 Tryz.f108.results.toList (Tryz.f108.body.getD .skip) (sync_Sync_flush.RV R) [([(0, [1, 1, 1, 0, 1, 0, 0]), (2, [1, 1, 1, 0, 1, 0, 0]), (1, [0]), (0, [1, 1, 1, 1])], fun σ w => dP (slotOf σ 0) fun s_ => dL (slotOf σ 3) fun out_b_ out_l_ out_c_ => dI .i64 (slotOf σ 4) fun i_ => sL1 s_ out_b_ out_l_ out_c_ i_ w)] 2000) [(0, [])] [(0, .pointer s)] w := by kernel_rfl
theorem sync_Sync_flush.B0_sound {R : Option Addr → Nat → Nat → World → Prop}  (s : Option Addr) (w : World) (h : sync_Sync_flush.B0 s w   R) :
    KW Tryz.prog 108 42 (sync_Sync_flush.RV R) ([(0, [])].map (toItem (Tryz.f108.body.getD .skip))) [(0, .pointer s)] w := by
  exact block_spec Tryz.func108 Tryz.mixed (stops_cons (fun σ w h => by
      obtain ⟨s_, e0, h⟩ := dP_elim h
      obtain ⟨out_b_, out_l_, out_c_, e1, h⟩ := dL_elim h
      obtain ⟨i_, e2, h⟩ := dI_elim h
      exact (sync_Sync_flush.L1_sound  s_ out_b_ out_l_ out_c_ i_ w h).weaken (Sub.cons (Sub.cons (Sub.cons (Sub.nil _) e2) e1) e0)) stops_nil) (Eq.mp (sync_Sync_flush.B0_eq s w   R (fun s_ out_b_ out_l_ out_c_ i_ w => sync_Sync_flush.L1 s_ out_b_ out_l_ out_c_ i_ w  R)) h)
theorem sync_Sync_flush.sound (s : Option Addr) (w : World) (R : Option Addr → Nat → Nat → World → Prop) (h : sync_Sync_flush.B0 s w R) : sync_Sync_flush.Call s w R := by
  have hc := calls_of_block (args := #[.pointer s]) Tryz.func108 (body := (Tryz.f108.body.getD .skip)) (by kernel_rfl) (by kernel_rfl) (args_slot _) (sync_Sync_flush.B0_sound s w h)
  exact hc.mono fun e w' he => by
    obtain ⟨v, rfl, hv⟩ := he
    exact sync_Sync_flush.RV_elim hv
def electm_Elect_Tick.B0 (e : Option Addr) (w : World)   (R : Int → World → Prop) : Prop :=
  Pn e fun a =>
  LdI .i64 (a.add 3) w fun x6 =>
  Bm (x6 == (2 : Int)) (
    R (2 : Int) w) (
    Pn e fun a_1 =>
    LdI .i64 (a_1.add 5) w fun x11 =>
    Pn e fun a_2 =>
    Sts [.int .i64 (IntKind.i64.wrap (x11 + (1 : Int)))] (a_2.add 5) 0 w fun w1 =>
    Pn e fun a_3 =>
    LdI .i64 (a_3.add 5) w1.drew fun x18 =>
    Pn e fun a_4 =>
    LdI .i64 a_4 w1.drew fun x22 =>
    api_Timeout.Call x22 w1.drew fun r23 w2 =>
    w2.cell? (a_3.add 5) = some (.int .i64 x18) ∧
    Bm (decide (x18 < r23)) (
      R (0 : Int) w2) (
      Pn e fun a_5 =>
      Sts [.int .i64 (0 : Int)] (a_5.add 5) 0 w2 fun w3 =>
      Pn e fun a_6 =>
      LdI .i64 (a_6.add 1) w3 fun x31 =>
      Bm (decide (x31 ≥ (72057594037927936 : Int))) (
        R (0 : Int) w3) (
        Pn e fun a_7 =>
        LdI .i64 (a_7.add 1) w3.drew fun x40 =>
        Pn e fun a_8 =>
        LdI .i64 a_8 w3.drew fun x45 =>
        Pn e fun a_9 =>
        Sts [.int .i64 (IntKind.i64.wrap (x40 + (1 : Int)))] (a_9.add 1) 0 w3.drew fun w4 =>
        Pn e fun a_10 =>
        Sts [.int .i64 x45] (a_10.add 2) 0 w4 fun w5 =>
        Pn e fun a_11 =>
        Sts [.int .i64 (1 : Int)] (a_11.add 3) 0 w5 fun w6 =>
        Pn e fun a_12 =>
        Sts [.int .i64 (-1 : Int)] (a_12.add 4) 0 w6 fun w7 =>
        Pn e fun a_13 =>
        Sts [.bool false, .bool false, .bool false] (a_13.add 6) 0 w7 fun w8 =>
        Pn e fun a_14 =>
        LdI .i64 a_14 w8.drew fun x62 =>
        Pn e fun a_15 =>
        (0 ≤ x62 ∧ x62 < ((3 : Nat) : Int)) ∧
        Sts [.bool true] (Addr.add (a_15.add 6) (x62.toNat * 1)) 0 w8.drew fun w9 =>
        R (1 : Int) w9)))
theorem electm_Elect_Tick.B0_eq (e : Option Addr) (w : World)   (R : Int → World → Prop)  :
    (
  Pn e fun a =>
  LdI .i64 (a.add 3) w fun x6 =>
  Bm (x6 == (2 : Int)) (
    R (2 : Int) w) (
    Pn e fun a_1 =>
    LdI .i64 (a_1.add 5) w fun x11 =>
    Pn e fun a_2 =>
    Sts [.int .i64 (IntKind.i64.wrap (x11 + (1 : Int)))] (a_2.add 5) 0 w fun w1 =>
    Pn e fun a_3 =>
    LdI .i64 (a_3.add 5) w1.drew fun x18 =>
    Pn e fun a_4 =>
    LdI .i64 a_4 w1.drew fun x22 =>
    api_Timeout.Call x22 w1.drew fun r23 w2 =>
    w2.cell? (a_3.add 5) = some (.int .i64 x18) ∧
    Bm (decide (x18 < r23)) (
      R (0 : Int) w2) (
      Pn e fun a_5 =>
      Sts [.int .i64 (0 : Int)] (a_5.add 5) 0 w2 fun w3 =>
      Pn e fun a_6 =>
      LdI .i64 (a_6.add 1) w3 fun x31 =>
      Bm (decide (x31 ≥ (72057594037927936 : Int))) (
        R (0 : Int) w3) (
        Pn e fun a_7 =>
        LdI .i64 (a_7.add 1) w3.drew fun x40 =>
        Pn e fun a_8 =>
        LdI .i64 a_8 w3.drew fun x45 =>
        Pn e fun a_9 =>
        Sts [.int .i64 (IntKind.i64.wrap (x40 + (1 : Int)))] (a_9.add 1) 0 w3.drew fun w4 =>
        Pn e fun a_10 =>
        Sts [.int .i64 x45] (a_10.add 2) 0 w4 fun w5 =>
        Pn e fun a_11 =>
        Sts [.int .i64 (1 : Int)] (a_11.add 3) 0 w5 fun w6 =>
        Pn e fun a_12 =>
        Sts [.int .i64 (-1 : Int)] (a_12.add 4) 0 w6 fun w7 =>
        Pn e fun a_13 =>
        Sts [.bool false, .bool false, .bool false] (a_13.add 6) 0 w7 fun w8 =>
        Pn e fun a_14 =>
        LdI .i64 a_14 w8.drew fun x62 =>
        Pn e fun a_15 =>
        (0 ≤ x62 ∧ x62 < ((3 : Nat) : Int)) ∧
        Sts [.bool true] (Addr.add (a_15.add 6) (x62.toNat * 1)) 0 w8.drew fun w9 =>
        R (1 : Int) w9)))) = kstep Tryz.prog 66 Tryz.f109.results.toList (Tryz.f109.body.getD .skip) (electm_Elect_Tick.RV R) (kvc Tryz.prog 66 Tryz.f109.results.toList (Tryz.f109.body.getD .skip) (electm_Elect_Tick.RV R) [] 2000) [(0, [])] [(0, .pointer e)] w := by kernel_rfl
theorem electm_Elect_Tick.B0_sound {R : Int → World → Prop}  (e : Option Addr) (w : World) (h : electm_Elect_Tick.B0 e w   R) :
    KW Tryz.prog 109 66 (electm_Elect_Tick.RV R) ([(0, [])].map (toItem (Tryz.f109.body.getD .skip))) [(0, .pointer e)] w := by
  exact block_spec Tryz.func109 Tryz.mixed stops_nil (Eq.mp (electm_Elect_Tick.B0_eq e w   R ) h)
theorem electm_Elect_Tick.sound (e : Option Addr) (w : World) (R : Int → World → Prop) (h : electm_Elect_Tick.B0 e w R) : electm_Elect_Tick.Call e w R := by
  have hc := calls_of_block (args := #[.pointer e]) Tryz.func109 (body := (Tryz.f109.body.getD .skip)) (by kernel_rfl) (by kernel_rfl) (args_slot _) (electm_Elect_Tick.B0_sound e w h)
  exact hc.mono fun e w' he => by
    obtain ⟨v, rfl, hv⟩ := he
    exact electm_Elect_Tick.RV_elim hv
def syncm_Sync_persist.B1 (s : Option Addr) (t v : Int) (t33 : Bool) (w : World)   (R : World → Prop) : Prop :=
  Bm t33 (
    Pn s fun a =>
    LdP a w fun x37 =>
    rlogm_Log_SetTerm.Call x37 t v w fun r40 w1 =>
    R  w1) (
    R  w)
theorem syncm_Sync_persist.B1_eq (s : Option Addr) (t v : Int) (t33 : Bool) (w : World)   (R : World → Prop)  :
    (
  Bm t33 (
    Pn s fun a =>
    LdP a w fun x37 =>
    rlogm_Log_SetTerm.Call x37 t v w fun r40 w1 =>
    R  w1) (
    R  w)) = kstep Tryz.prog 41 Tryz.f110.results.toList (Tryz.f110.body.getD .skip) (syncm_Sync_persist.RV R) (kvc Tryz.prog 41 Tryz.f110.results.toList (Tryz.f110.body.getD .skip) (syncm_Sync_persist.RV R) [] 2000) [(0, [1, 1, 1, 1, 1])] [(0, .pointer s), (2, .int .i64 t), (3, .int .i64 v), (33, .bool t33)] w := by kernel_rfl
theorem syncm_Sync_persist.B1_sound {R : World → Prop}  (s : Option Addr) (t v : Int) (t33 : Bool) (w : World) (h : syncm_Sync_persist.B1 s t v t33 w   R) :
    KW Tryz.prog 110 41 (syncm_Sync_persist.RV R) ([(0, [1, 1, 1, 1, 1])].map (toItem (Tryz.f110.body.getD .skip))) [(0, .pointer s), (2, .int .i64 t), (3, .int .i64 v), (33, .bool t33)] w := by
  exact block_spec Tryz.func110 Tryz.mixed stops_nil (Eq.mp (syncm_Sync_persist.B1_eq s t v t33 w   R ) h)
def syncm_Sync_persist.B0 (s : Option Addr) (w : World)   (R : World → Prop) : Prop :=
  Pn s fun a =>
  LdP (a.add 1) w fun x9 =>
  electm_Elect_Term.Call x9 w fun r10 w1 =>
  Pn s fun a_1 =>
  LdP (a_1.add 1) w1 fun x14 =>
  electm_Elect_Vote.Call x14 w1 fun r15 w2 =>
  Pn s fun a_2 =>
  LdP a_2 w2 fun x19 =>
  rlogm_Log_Term.Call x19 w2 fun r20 w3 =>
  Pn s fun a_3 =>
  LdP a_3 w3 fun x24 =>
  rlogm_Log_Vote.Call x24 w3 fun r25 w4 =>
  Bm (r10 != r20) (
    syncm_Sync_persist.B1 s r10 r15 true w4  R) (
    syncm_Sync_persist.B1 s r10 r15 (r15 != r25) w4  R)
theorem syncm_Sync_persist.B0_eq (s : Option Addr) (w : World)   (R : World → Prop) (sB1 : Option Addr → Int → Int → Bool → World → Prop) :
    (
  Pn s fun a =>
  LdP (a.add 1) w fun x9 =>
  electm_Elect_Term.Call x9 w fun r10 w1 =>
  Pn s fun a_1 =>
  LdP (a_1.add 1) w1 fun x14 =>
  electm_Elect_Vote.Call x14 w1 fun r15 w2 =>
  Pn s fun a_2 =>
  LdP a_2 w2 fun x19 =>
  rlogm_Log_Term.Call x19 w2 fun r20 w3 =>
  Pn s fun a_3 =>
  LdP a_3 w3 fun x24 =>
  rlogm_Log_Vote.Call x24 w3 fun r25 w4 =>
  Bm (r10 != r20) (
    sB1 s r10 r15 true w4) (
    sB1 s r10 r15 (r15 != r25) w4)) = kstep Tryz.prog 41 Tryz.f110.results.toList (Tryz.f110.body.getD .skip) (syncm_Sync_persist.RV R) (kvc Tryz.prog 41 Tryz.f110.results.toList (Tryz.f110.body.getD .skip) (syncm_Sync_persist.RV R) [([(0, [1, 1, 1, 1, 1])], fun σ w => dP (slotOf σ 0) fun s_ => dI .i64 (slotOf σ 2) fun t_ => dI .i64 (slotOf σ 3) fun v_ => dB (slotOf σ 33) fun t33_ => sB1 s_ t_ v_ t33_ w)] 2000) [(0, [])] [(0, .pointer s)] w := by kernel_rfl
theorem syncm_Sync_persist.B0_sound {R : World → Prop}  (s : Option Addr) (w : World) (h : syncm_Sync_persist.B0 s w   R) :
    KW Tryz.prog 110 41 (syncm_Sync_persist.RV R) ([(0, [])].map (toItem (Tryz.f110.body.getD .skip))) [(0, .pointer s)] w := by
  exact block_spec Tryz.func110 Tryz.mixed (stops_cons (fun σ w h => by
      obtain ⟨s_, e0, h⟩ := dP_elim h
      obtain ⟨t_, e1, h⟩ := dI_elim h
      obtain ⟨v_, e2, h⟩ := dI_elim h
      obtain ⟨t33_, e3, h⟩ := dB_elim h
      exact (syncm_Sync_persist.B1_sound  s_ t_ v_ t33_ w h).weaken (Sub.cons (Sub.cons (Sub.cons (Sub.cons (Sub.nil _) e3) e2) e1) e0)) stops_nil) (Eq.mp (syncm_Sync_persist.B0_eq s w   R (fun s_ t_ v_ t33_ w => syncm_Sync_persist.B1 s_ t_ v_ t33_ w  R)) h)
theorem syncm_Sync_persist.sound (s : Option Addr) (w : World) (R : World → Prop) (h : syncm_Sync_persist.B0 s w R) : syncm_Sync_persist.Call s w R := by
  have hc := calls_of_block (args := #[.pointer s]) Tryz.func110 (body := (Tryz.f110.body.getD .skip)) (by kernel_rfl) (by kernel_rfl) (args_slot _) (syncm_Sync_persist.B0_sound s w h)
  exact hc.mono fun e w' he => by
    obtain ⟨v, rfl, hv⟩ := he
    exact syncm_Sync_persist.RV_elim hv
def syncm_Sync_sendAll.B1 (s out_b : Option Addr) (out_l out_c : Nat) (id0 p : Int) (w : World) (N1 : Option Addr → Option Addr → Nat → Nat → Int → Int → World → Prop)  (R : Option Addr → Nat → Nat → World → Prop) : Prop :=
  N1 s out_b out_l out_c id0 (IntKind.i64.wrap (p + (1 : Int))) w
theorem syncm_Sync_sendAll.B1_eq (s out_b : Option Addr) (out_l out_c : Nat) (id0 p : Int) (w : World) (N1 : Option Addr → Option Addr → Nat → Nat → Int → Int → World → Prop)  (R : Option Addr → Nat → Nat → World → Prop)  :
    (
  N1 s out_b out_l out_c id0 (IntKind.i64.wrap (p + (1 : Int))) w) = kstep Tryz.prog 27 Tryz.f111.results.toList (Tryz.f111.body.getD .skip) (syncm_Sync_sendAll.RV R) (kvc Tryz.prog 27 Tryz.f111.results.toList (Tryz.f111.body.getD .skip) (syncm_Sync_sendAll.RV R) [([(0, [1, 1, 1, 0, 1, 0, 0]), (2, [1, 1, 1, 0, 1, 0, 0]), (1, [0]), (0, [1, 1, 1, 1])], fun σ w => dP (slotOf σ 0) fun s_ => dL (slotOf σ 3) fun out_b_ out_l_ out_c_ => dI .i64 (slotOf σ 4) fun id0_ => dI .i64 (slotOf σ 5) fun p_ => N1 s_ out_b_ out_l_ out_c_ id0_ p_ w)] 2000) [(0, [1, 1, 1, 0, 1, 0, 0, 1, 1]), (2, [1, 1, 1, 0, 1, 0, 0]), (1, [0]), (0, [1, 1, 1, 1])] [(0, .pointer s), (3, .slice out_b out_l out_c), (4, .int .i64 id0), (5, .int .i64 p)] w := by kernel_rfl
theorem syncm_Sync_sendAll.B1_sound {R : Option Addr → Nat → Nat → World → Prop} {N1 : Option Addr → Option Addr → Nat → Nat → Int → Int → World → Prop} (hN1 : ∀ s out_b out_l out_c id0 p w, N1 s out_b out_l out_c id0 p w → KW Tryz.prog 111 27 (syncm_Sync_sendAll.RV R) ([(0, [1, 1, 1, 0, 1, 0, 0]), (2, [1, 1, 1, 0, 1, 0, 0]), (1, [0]), (0, [1, 1, 1, 1])].map (toItem (Tryz.f111.body.getD .skip))) [(0, .pointer s), (3, .slice out_b out_l out_c), (4, .int .i64 id0), (5, .int .i64 p)] w) (s out_b : Option Addr) (out_l out_c : Nat) (id0 p : Int) (w : World) (h : syncm_Sync_sendAll.B1 s out_b out_l out_c id0 p w N1  R) :
    KW Tryz.prog 111 27 (syncm_Sync_sendAll.RV R) ([(0, [1, 1, 1, 0, 1, 0, 0, 1, 1]), (2, [1, 1, 1, 0, 1, 0, 0]), (1, [0]), (0, [1, 1, 1, 1])].map (toItem (Tryz.f111.body.getD .skip))) [(0, .pointer s), (3, .slice out_b out_l out_c), (4, .int .i64 id0), (5, .int .i64 p)] w := by
  exact block_spec Tryz.func111 Tryz.mixed (stops_cons (fun σ w h => by
      obtain ⟨s_, e0, h⟩ := dP_elim h
      obtain ⟨out_b_, out_l_, out_c_, e1, h⟩ := dL_elim h
      obtain ⟨id0_, e2, h⟩ := dI_elim h
      obtain ⟨p_, e3, h⟩ := dI_elim h
      exact (hN1 s_ out_b_ out_l_ out_c_ id0_ p_ w h).weaken (Sub.cons (Sub.cons (Sub.cons (Sub.cons (Sub.nil _) e3) e2) e1) e0)) stops_nil) (Eq.mp (syncm_Sync_sendAll.B1_eq s out_b out_l out_c id0 p w N1  R ) h)
def syncm_Sync_sendAll.L1b (s out_b : Option Addr) (out_l out_c : Nat) (id0 p : Int) (w : World)  (N1 : Option Addr → Option Addr → Nat → Nat → Int → Int → World → Prop) (R : Option Addr → Nat → Nat → World → Prop) : Prop :=
  Bm (decide (p < (3 : Int))) (
    Bm (p != id0) (
      syncm_Sync_send.Call s p w fun r21_0 r21_1 r21_2 r21_3 r21_4 r21_5 r21_6 r21_7 r21_8_b r21_8_l r21_8_c r21_9 w1 =>
      New (.cells #[.int .i64 (0 : Int), .int .i64 (0 : Int), .int .i64 (0 : Int), .int .i64 (0 : Int), .int .i64 (0 : Int), .int .i64 (0 : Int), .int .i64 (0 : Int), .bool false, .slice none 0 0, .string (ByteArray.mk #[])] 40) w1 fun m0_ w2 =>
      Sts [.int .i64 r21_0, .int .i64 r21_1, .int .i64 r21_2, .int .i64 r21_3, .int .i64 r21_4, .int .i64 r21_5, .int .i64 r21_6, .bool r21_7, .slice r21_8_b r21_8_l r21_8_c, .string r21_9] ⟨m0_, 0, none⟩ 0 w2 fun w3 =>
      LdI .i64 ⟨m0_, 0, none⟩ w3 fun x23_0 =>
      LdI .i64 ⟨m0_, 1, none⟩ w3 fun x23_1 =>
      LdI .i64 ⟨m0_, 2, none⟩ w3 fun x23_2 =>
      LdI .i64 ⟨m0_, 3, none⟩ w3 fun x23_3 =>
      LdI .i64 ⟨m0_, 4, none⟩ w3 fun x23_4 =>
      LdI .i64 ⟨m0_, 5, none⟩ w3 fun x23_5 =>
      LdI .i64 ⟨m0_, 6, none⟩ w3 fun x23_6 =>
      LdB ⟨m0_, 7, none⟩ w3 fun x23_7 =>
      LdL ⟨m0_, 8, none⟩ w3 fun x23_8_b x23_8_l x23_8_c =>
      LdS ⟨m0_, 9, none⟩ w3 fun x23_9 =>
      New (.cells #[.int .i64 x23_0, .int .i64 x23_1, .int .i64 x23_2, .int .i64 x23_3, .int .i64 x23_4, .int .i64 x23_5, .int .i64 x23_6, .bool x23_7, .slice x23_8_b x23_8_l x23_8_c, .string x23_9] 40) w3 fun b24 w4 =>
      Append 40 (.agg #[.int .i64 (0 : Int), .int .i64 (0 : Int), .int .i64 (0 : Int), .int .i64 (0 : Int), .int .i64 (0 : Int), .int .i64 (0 : Int), .int .i64 (0 : Int), .bool false, .slice none 0 0, .string (ByteArray.mk #[])]) 10 104 out_b out_l out_c (some ⟨b24, 0, none⟩) 1 w4 fun b25 c25 w5 =>
      syncm_Sync_sendAll.B1 s b25 (out_l + 1) c25 id0 p w5 N1 R) (
      syncm_Sync_sendAll.B1 s out_b out_l out_c id0 p w N1 R)) (
    R out_b out_l out_c w)
theorem syncm_Sync_sendAll.L1b_eq (s out_b : Option Addr) (out_l out_c : Nat) (id0 p : Int) (w : World)  (N1 : Option Addr → Option Addr → Nat → Nat → Int → Int → World → Prop) (R : Option Addr → Nat → Nat → World → Prop) (sB1 : Option Addr → Option Addr → Nat → Nat → Int → Int → World → Prop) :
    (
  Bm (decide (p < (3 : Int))) (
    Bm (p != id0) (
      syncm_Sync_send.Call s p w fun r21_0 r21_1 r21_2 r21_3 r21_4 r21_5 r21_6 r21_7 r21_8_b r21_8_l r21_8_c r21_9 w1 =>
      New (.cells #[.int .i64 (0 : Int), .int .i64 (0 : Int), .int .i64 (0 : Int), .int .i64 (0 : Int), .int .i64 (0 : Int), .int .i64 (0 : Int), .int .i64 (0 : Int), .bool false, .slice none 0 0, .string (ByteArray.mk #[])] 40) w1 fun m0_ w2 =>
      Sts [.int .i64 r21_0, .int .i64 r21_1, .int .i64 r21_2, .int .i64 r21_3, .int .i64 r21_4, .int .i64 r21_5, .int .i64 r21_6, .bool r21_7, .slice r21_8_b r21_8_l r21_8_c, .string r21_9] ⟨m0_, 0, none⟩ 0 w2 fun w3 =>
      LdI .i64 ⟨m0_, 0, none⟩ w3 fun x23_0 =>
      LdI .i64 ⟨m0_, 1, none⟩ w3 fun x23_1 =>
      LdI .i64 ⟨m0_, 2, none⟩ w3 fun x23_2 =>
      LdI .i64 ⟨m0_, 3, none⟩ w3 fun x23_3 =>
      LdI .i64 ⟨m0_, 4, none⟩ w3 fun x23_4 =>
      LdI .i64 ⟨m0_, 5, none⟩ w3 fun x23_5 =>
      LdI .i64 ⟨m0_, 6, none⟩ w3 fun x23_6 =>
      LdB ⟨m0_, 7, none⟩ w3 fun x23_7 =>
      LdL ⟨m0_, 8, none⟩ w3 fun x23_8_b x23_8_l x23_8_c =>
      LdS ⟨m0_, 9, none⟩ w3 fun x23_9 =>
      New (.cells #[.int .i64 x23_0, .int .i64 x23_1, .int .i64 x23_2, .int .i64 x23_3, .int .i64 x23_4, .int .i64 x23_5, .int .i64 x23_6, .bool x23_7, .slice x23_8_b x23_8_l x23_8_c, .string x23_9] 40) w3 fun b24 w4 =>
      Append 40 (.agg #[.int .i64 (0 : Int), .int .i64 (0 : Int), .int .i64 (0 : Int), .int .i64 (0 : Int), .int .i64 (0 : Int), .int .i64 (0 : Int), .int .i64 (0 : Int), .bool false, .slice none 0 0, .string (ByteArray.mk #[])]) 10 104 out_b out_l out_c (some ⟨b24, 0, none⟩) 1 w4 fun b25 c25 w5 =>
      sB1 s b25 (out_l + 1) c25 id0 p w5) (
      sB1 s out_b out_l out_c id0 p w)) (
    R out_b out_l out_c w)) = kstep Tryz.prog 27 Tryz.f111.results.toList (Tryz.f111.body.getD .skip) (syncm_Sync_sendAll.RV R) (kvc Tryz.prog 27 Tryz.f111.results.toList (Tryz.f111.body.getD .skip) (syncm_Sync_sendAll.RV R) [([(0, [1, 1, 1, 0, 1, 0, 0, 1, 1]), (2, [1, 1, 1, 0, 1, 0, 0]), (1, [0]), (0, [1, 1, 1, 1])], fun σ w => dP (slotOf σ 0) fun s_ => dL (slotOf σ 3) fun out_b_ out_l_ out_c_ => dI .i64 (slotOf σ 4) fun id0_ => dI .i64 (slotOf σ 5) fun p_ => sB1 s_ out_b_ out_l_ out_c_ id0_ p_ w)] 2000) [(0, [1, 1, 1, 0, 1, 0, 0]), (2, [1, 1, 1, 0, 1, 0, 0]), (1, [0]), (0, [1, 1, 1, 1])] [(0, .pointer s), (3, .slice out_b out_l out_c), (4, .int .i64 id0), (5, .int .i64 p)] w := by kernel_rfl
theorem syncm_Sync_sendAll.L1b_sound {R : Option Addr → Nat → Nat → World → Prop} {N1 : Option Addr → Option Addr → Nat → Nat → Int → Int → World → Prop} (hN1 : ∀ s out_b out_l out_c id0 p w, N1 s out_b out_l out_c id0 p w → KW Tryz.prog 111 27 (syncm_Sync_sendAll.RV R) ([(0, [1, 1, 1, 0, 1, 0, 0]), (2, [1, 1, 1, 0, 1, 0, 0]), (1, [0]), (0, [1, 1, 1, 1])].map (toItem (Tryz.f111.body.getD .skip))) [(0, .pointer s), (3, .slice out_b out_l out_c), (4, .int .i64 id0), (5, .int .i64 p)] w) (s out_b : Option Addr) (out_l out_c : Nat) (id0 p : Int) (w : World) (h : syncm_Sync_sendAll.L1b s out_b out_l out_c id0 p w  N1 R) :
    KW Tryz.prog 111 27 (syncm_Sync_sendAll.RV R) ([(0, [1, 1, 1, 0, 1, 0, 0]), (2, [1, 1, 1, 0, 1, 0, 0]), (1, [0]), (0, [1, 1, 1, 1])].map (toItem (Tryz.f111.body.getD .skip))) [(0, .pointer s), (3, .slice out_b out_l out_c), (4, .int .i64 id0), (5, .int .i64 p)] w := by
  exact block_spec Tryz.func111 Tryz.mixed (stops_cons (fun σ w h => by
      obtain ⟨s_, e0, h⟩ := dP_elim h
      obtain ⟨out_b_, out_l_, out_c_, e1, h⟩ := dL_elim h
      obtain ⟨id0_, e2, h⟩ := dI_elim h
      obtain ⟨p_, e3, h⟩ := dI_elim h
      exact (syncm_Sync_sendAll.B1_sound hN1 s_ out_b_ out_l_ out_c_ id0_ p_ w h).weaken (Sub.cons (Sub.cons (Sub.cons (Sub.cons (Sub.nil _) e3) e2) e1) e0)) stops_nil) (Eq.mp (syncm_Sync_sendAll.L1b_eq s out_b out_l out_c id0 p w  N1 R (fun s_ out_b_ out_l_ out_c_ id0_ p_ w => syncm_Sync_sendAll.B1 s_ out_b_ out_l_ out_c_ id0_ p_ w N1 R)) h)
def syncm_Sync_sendAll.L1 (s out_b : Option Addr) (out_l out_c : Nat) (id0 p : Int) (w : World)  (R : Option Addr → Nat → Nat → World → Prop) : Prop :=
  ∃ (I : Nat → Option Addr → Option Addr → Nat → Nat → Int → Int → World → Prop) (m : Nat), I m s out_b out_l out_c id0 p w ∧ ∀ m s out_b out_l out_c id0 p w, I m s out_b out_l out_c id0 p w → syncm_Sync_sendAll.L1b s out_b out_l out_c id0 p w  (fun s' out_b' out_l' out_c' id0' p' w' => ∃ m', m' < m ∧ I m' s' out_b' out_l' out_c' id0' p' w') R
theorem syncm_Sync_sendAll.L1_sound {R : Option Addr → Nat → Nat → World → Prop}  (s out_b : Option Addr) (out_l out_c : Nat) (id0 p : Int) (w : World) (h : syncm_Sync_sendAll.L1 s out_b out_l out_c id0 p w  R) :
    KW Tryz.prog 111 27 (syncm_Sync_sendAll.RV R) ([(0, [1, 1, 1, 0, 1, 0, 0]), (2, [1, 1, 1, 0, 1, 0, 0]), (1, [0]), (0, [1, 1, 1, 1])].map (toItem (Tryz.f111.body.getD .skip))) [(0, .pointer s), (3, .slice out_b out_l out_c), (4, .int .i64 id0), (5, .int .i64 p)] w := by
  obtain ⟨I, m, hBase, hr⟩ := h
  refine KW.loop (fun m σ w => ∃ (s out_b : Option Addr) (out_l out_c : Nat) (id0 p : Int), σ = [(0, .pointer s), (3, .slice out_b out_l out_c), (4, .int .i64 id0), (5, .int .i64 p)] ∧ I m s out_b out_l out_c id0 p w) ?_ m _ w ⟨s, out_b, out_l, out_c, id0, p, rfl, hBase⟩
  rintro m ih σ w ⟨s, out_b, out_l, out_c, id0, p, rfl, hI⟩
  exact syncm_Sync_sendAll.L1b_sound  (N1 := fun s' out_b' out_l' out_c' id0' p' w' => ∃ m', m' < m ∧ I m' s' out_b' out_l' out_c' id0' p' w') (fun s' out_b' out_l' out_c' id0' p' w' hx => by obtain ⟨m', hlt, hI'⟩ := hx; exact ih m' hlt _ w' ⟨s', out_b', out_l', out_c', id0', p', rfl, hI'⟩) s out_b out_l out_c id0 p w (hr m s out_b out_l out_c id0 p w hI)
def syncm_Sync_sendAll.B0 (s : Option Addr) (w : World)   (R : Option Addr → Nat → Nat → World → Prop) : Prop :=
  Pn s fun a =>
  LdP (a.add 1) w fun x10 =>
  electm_Elect_Id.Call x10 w fun r11 w1 =>
  syncm_Sync_sendAll.L1 s none 0 0 r11 (0 : Int) w1  R
theorem syncm_Sync_sendAll.B0_eq (s : Option Addr) (w : World)   (R : Option Addr → Nat → Nat → World → Prop) (sL1 : Option Addr → Option Addr → Nat → Nat → Int → Int → World → Prop) :
    (
  Pn s fun a =>
  LdP (a.add 1) w fun x10 =>
  electm_Elect_Id.Call x10 w fun r11 w1 =>
  sL1 s none 0 0 r11 (0 : Int) w1) = kstep Tryz.prog 27 Tryz.f111.results.toList (Tryz.f111.body.getD .skip) (syncm_Sync_sendAll.RV R) (kvc Tryz.prog 27 Tryz.f111.results.toList (Tryz.f111.body.getD .skip) (syncm_Sync_sendAll.RV R) [([(0, [1, 1, 1, 0, 1, 0, 0]), (2, [1, 1, 1, 0, 1, 0, 0]), (1, [0]), (0, [1, 1, 1, 1])], fun σ w => dP (slotOf σ 0) fun s_ => dL (slotOf σ 3) fun out_b_ out_l_ out_c_ => dI .i64 (slotOf σ 4) fun id0_ => dI .i64 (slotOf σ 5) fun p_ => sL1 s_ out_b_ out_l_ out_c_ id0_ p_ w)] 2000) [(0, [])] [(0, .pointer s)] w := by kernel_rfl
theorem syncm_Sync_sendAll.B0_sound {R : Option Addr → Nat → Nat → World → Prop}  (s : Option Addr) (w : World) (h : syncm_Sync_sendAll.B0 s w   R) :
    KW Tryz.prog 111 27 (syncm_Sync_sendAll.RV R) ([(0, [])].map (toItem (Tryz.f111.body.getD .skip))) [(0, .pointer s)] w := by
  exact block_spec Tryz.func111 Tryz.mixed (stops_cons (fun σ w h => by
      obtain ⟨s_, e0, h⟩ := dP_elim h
      obtain ⟨out_b_, out_l_, out_c_, e1, h⟩ := dL_elim h
      obtain ⟨id0_, e2, h⟩ := dI_elim h
      obtain ⟨p_, e3, h⟩ := dI_elim h
      exact (syncm_Sync_sendAll.L1_sound  s_ out_b_ out_l_ out_c_ id0_ p_ w h).weaken (Sub.cons (Sub.cons (Sub.cons (Sub.cons (Sub.nil _) e3) e2) e1) e0)) stops_nil) (Eq.mp (syncm_Sync_sendAll.B0_eq s w   R (fun s_ out_b_ out_l_ out_c_ id0_ p_ w => syncm_Sync_sendAll.L1 s_ out_b_ out_l_ out_c_ id0_ p_ w  R)) h)
theorem syncm_Sync_sendAll.sound (s : Option Addr) (w : World) (R : Option Addr → Nat → Nat → World → Prop) (h : syncm_Sync_sendAll.B0 s w R) : syncm_Sync_sendAll.Call s w R := by
  have hc := calls_of_block (args := #[.pointer s]) Tryz.func111 (body := (Tryz.f111.body.getD .skip)) (by kernel_rfl) (by kernel_rfl) (args_slot _) (syncm_Sync_sendAll.B0_sound s w h)
  exact hc.mono fun e w' he => by
    obtain ⟨v, rfl, hv⟩ := he
    exact syncm_Sync_sendAll.RV_elim hv
def rlogm_Log_TermAt.B0 (l : Option Addr) (i : Int) (w : World)   (R : Int → Int → World → Prop) : Prop :=
  Pn l fun a =>
  LdP a w fun x12 =>
  Pn x12 fun a_1 =>
  LdI .i64 (a_1.add 2) w fun x15 =>
  Bm (i == x15) (
    Pn l fun a_2 =>
    LdP a_2 w fun x20 =>
    Pn x20 fun a_3 =>
    LdI .i64 (a_3.add 3) w fun x23 =>
    R x23 (0 : Int) w) (
    rlogm_Log_At.Call l i w fun r27_0_0 r27_0_1 r27_1 w1 =>
    New (.cells #[.int .i64 (0 : Int), .string (ByteArray.mk #[])] 103) w1 fun e_ w2 =>
    Sts [.int .i64 r27_0_0, .string r27_0_1] ⟨e_, 0, none⟩ 0 w2 fun w3 =>
    LdI .i64 ⟨e_, 0, none⟩ w3 fun x31 =>
    R x31 r27_1 w3)
theorem rlogm_Log_TermAt.B0_eq (l : Option Addr) (i : Int) (w : World)   (R : Int → Int → World → Prop)  :
    (
  Pn l fun a =>
  LdP a w fun x12 =>
  Pn x12 fun a_1 =>
  LdI .i64 (a_1.add 2) w fun x15 =>
  Bm (i == x15) (
    Pn l fun a_2 =>
    LdP a_2 w fun x20 =>
    Pn x20 fun a_3 =>
    LdI .i64 (a_3.add 3) w fun x23 =>
    R x23 (0 : Int) w) (
    rlogm_Log_At.Call l i w fun r27_0_0 r27_0_1 r27_1 w1 =>
    New (.cells #[.int .i64 (0 : Int), .string (ByteArray.mk #[])] 103) w1 fun e_ w2 =>
    Sts [.int .i64 r27_0_0, .string r27_0_1] ⟨e_, 0, none⟩ 0 w2 fun w3 =>
    LdI .i64 ⟨e_, 0, none⟩ w3 fun x31 =>
    R x31 r27_1 w3)) = kstep Tryz.prog 33 Tryz.f112.results.toList (Tryz.f112.body.getD .skip) (rlogm_Log_TermAt.RV R) (kvc Tryz.prog 33 Tryz.f112.results.toList (Tryz.f112.body.getD .skip) (rlogm_Log_TermAt.RV R) [] 2000) [(0, [])] [(0, .pointer l), (1, .int .i64 i)] w := by kernel_rfl
theorem rlogm_Log_TermAt.B0_sound {R : Int → Int → World → Prop}  (l : Option Addr) (i : Int) (w : World) (h : rlogm_Log_TermAt.B0 l i w   R) :
    KW Tryz.prog 112 33 (rlogm_Log_TermAt.RV R) ([(0, [])].map (toItem (Tryz.f112.body.getD .skip))) [(0, .pointer l), (1, .int .i64 i)] w := by
  exact block_spec Tryz.func112 Tryz.mixed stops_nil (Eq.mp (rlogm_Log_TermAt.B0_eq l i w   R ) h)
theorem rlogm_Log_TermAt.sound (l : Option Addr) (i : Int) (w : World) (R : Int → Int → World → Prop) (h : rlogm_Log_TermAt.B0 l i w R) : rlogm_Log_TermAt.Call l i w R := by
  have hc := calls_of_block (args := #[.pointer l, .int .i64 i]) Tryz.func112 (body := (Tryz.f112.body.getD .skip)) (by kernel_rfl) (by kernel_rfl) (args_slot _) (rlogm_Log_TermAt.B0_sound l i w h)
  exact hc.mono fun e w' he => by
    obtain ⟨v, rfl, hv⟩ := he
    exact rlogm_Log_TermAt.RV_elim hv
def synclaw_Marked.L2b (a_b : Option Addr) (a_l a_c : Nat) (i j l : Int) (w : World) (N1 : Option Addr → Nat → Nat → Int → Int → World → Prop) (N2 : Option Addr → Nat → Nat → Int → Int → Int → World → Prop) (R : Bool → World → Prop) : Prop :=
  Pn a_b fun a =>
  (0 ≤ j ∧ j < ((a_l : Nat) : Int)) ∧
  LdL ((Addr.add a (j.toNat * 10)).add 8) w fun x21_b x21_l x21_c =>
  Bm (decide (l < ((x21_l : Nat) : Int))) (
    Pn a_b fun a_1 =>
    (0 ≤ j ∧ j < ((a_l : Nat) : Int)) ∧
    LdL ((Addr.add a_1 (j.toNat * 10)).add 8) w fun x30_b x30_l x30_c =>
    Pn x30_b fun a_2 =>
    (0 ≤ l ∧ l < ((x30_l : Nat) : Int)) ∧
    LdI .i64 (Addr.add a_2 (l.toNat * 2)) w fun x34 =>
    Bm (x34 == (-7 : Int)) (
      R true w) (
      N2 a_b a_l a_c i j (IntKind.i64.wrap (l + (1 : Int))) w)) (
    N1 a_b a_l a_c i (IntKind.i64.wrap (j + (1 : Int))) w)
theorem synclaw_Marked.L2b_eq (a_b : Option Addr) (a_l a_c : Nat) (i j l : Int) (w : World) (N1 : Option Addr → Nat → Nat → Int → Int → World → Prop) (N2 : Option Addr → Nat → Nat → Int → Int → Int → World → Prop) (R : Bool → World → Prop)  :
    (
  Pn a_b fun a =>
  (0 ≤ j ∧ j < ((a_l : Nat) : Int)) ∧
  LdL ((Addr.add a (j.toNat * 10)).add 8) w fun x21_b x21_l x21_c =>
  Bm (decide (l < ((x21_l : Nat) : Int))) (
    Pn a_b fun a_1 =>
    (0 ≤ j ∧ j < ((a_l : Nat) : Int)) ∧
    LdL ((Addr.add a_1 (j.toNat * 10)).add 8) w fun x30_b x30_l x30_c =>
    Pn x30_b fun a_2 =>
    (0 ≤ l ∧ l < ((x30_l : Nat) : Int)) ∧
    LdI .i64 (Addr.add a_2 (l.toNat * 2)) w fun x34 =>
    Bm (x34 == (-7 : Int)) (
      R true w) (
      N2 a_b a_l a_c i j (IntKind.i64.wrap (l + (1 : Int))) w)) (
    N1 a_b a_l a_c i (IntKind.i64.wrap (j + (1 : Int))) w)) = kstep Tryz.prog 36 Tryz.f113.results.toList (Tryz.f113.body.getD .skip) (synclaw_Marked.RV R) (kvc Tryz.prog 36 Tryz.f113.results.toList (Tryz.f113.body.getD .skip) (synclaw_Marked.RV R) [([(0, [1, 0, 1, 0, 0, 1, 0, 0, 1, 0, 1, 0, 0]), (2, [1, 0, 1, 0, 0, 1, 0, 0, 1, 0, 1, 0, 0]), (1, [2]), (1, [1]), (0, [1, 0, 1, 0, 0, 1, 1]), (2, [1, 0, 1, 0, 0]), (1, [0]), (0, [1, 1])], fun σ w => dL (slotOf σ 0) fun a_b_ a_l_ a_c_ => dI .i64 (slotOf σ 1) fun i_ => dI .i64 (slotOf σ 5) fun j_ => dI .i64 (slotOf σ 6) fun l_ => N2 a_b_ a_l_ a_c_ i_ j_ l_ w),
    ([(0, [1, 0, 1, 0, 0]), (2, [1, 0, 1, 0, 0]), (1, [0]), (0, [1, 1])], fun σ w => dL (slotOf σ 0) fun a_b_ a_l_ a_c_ => dI .i64 (slotOf σ 1) fun i_ => dI .i64 (slotOf σ 5) fun j_ => N1 a_b_ a_l_ a_c_ i_ j_ w)] 2000) [(0, [1, 0, 1, 0, 0, 1, 0, 0, 1, 0, 1, 0, 0]), (2, [1, 0, 1, 0, 0, 1, 0, 0, 1, 0, 1, 0, 0]), (1, [2]), (1, [1]), (0, [1, 0, 1, 0, 0, 1, 1]), (2, [1, 0, 1, 0, 0]), (1, [0]), (0, [1, 1])] [(0, .slice a_b a_l a_c), (1, .int .i64 i), (5, .int .i64 j), (6, .int .i64 l)] w := by kernel_rfl
theorem synclaw_Marked.L2b_sound {R : Bool → World → Prop} {N1 : Option Addr → Nat → Nat → Int → Int → World → Prop} (hN1 : ∀ a_b a_l a_c i j w, N1 a_b a_l a_c i j w → KW Tryz.prog 113 36 (synclaw_Marked.RV R) ([(0, [1, 0, 1, 0, 0]), (2, [1, 0, 1, 0, 0]), (1, [0]), (0, [1, 1])].map (toItem (Tryz.f113.body.getD .skip))) [(0, .slice a_b a_l a_c), (1, .int .i64 i), (5, .int .i64 j)] w) {N2 : Option Addr → Nat → Nat → Int → Int → Int → World → Prop} (hN2 : ∀ a_b a_l a_c i j l w, N2 a_b a_l a_c i j l w → KW Tryz.prog 113 36 (synclaw_Marked.RV R) ([(0, [1, 0, 1, 0, 0, 1, 0, 0, 1, 0, 1, 0, 0]), (2, [1, 0, 1, 0, 0, 1, 0, 0, 1, 0, 1, 0, 0]), (1, [2]), (1, [1]), (0, [1, 0, 1, 0, 0, 1, 1]), (2, [1, 0, 1, 0, 0]), (1, [0]), (0, [1, 1])].map (toItem (Tryz.f113.body.getD .skip))) [(0, .slice a_b a_l a_c), (1, .int .i64 i), (5, .int .i64 j), (6, .int .i64 l)] w) (a_b : Option Addr) (a_l a_c : Nat) (i j l : Int) (w : World) (h : synclaw_Marked.L2b a_b a_l a_c i j l w N1 N2 R) :
    KW Tryz.prog 113 36 (synclaw_Marked.RV R) ([(0, [1, 0, 1, 0, 0, 1, 0, 0, 1, 0, 1, 0, 0]), (2, [1, 0, 1, 0, 0, 1, 0, 0, 1, 0, 1, 0, 0]), (1, [2]), (1, [1]), (0, [1, 0, 1, 0, 0, 1, 1]), (2, [1, 0, 1, 0, 0]), (1, [0]), (0, [1, 1])].map (toItem (Tryz.f113.body.getD .skip))) [(0, .slice a_b a_l a_c), (1, .int .i64 i), (5, .int .i64 j), (6, .int .i64 l)] w := by
  exact block_spec Tryz.func113 Tryz.mixed (stops_cons (fun σ w h => by
      obtain ⟨a_b_, a_l_, a_c_, e0, h⟩ := dL_elim h
      obtain ⟨i_, e1, h⟩ := dI_elim h
      obtain ⟨j_, e2, h⟩ := dI_elim h
      obtain ⟨l_, e3, h⟩ := dI_elim h
      exact (hN2 a_b_ a_l_ a_c_ i_ j_ l_ w h).weaken (Sub.cons (Sub.cons (Sub.cons (Sub.cons (Sub.nil _) e3) e2) e1) e0)) (stops_cons (fun σ w h => by
      obtain ⟨a_b_, a_l_, a_c_, e0, h⟩ := dL_elim h
      obtain ⟨i_, e1, h⟩ := dI_elim h
      obtain ⟨j_, e2, h⟩ := dI_elim h
      exact (hN1 a_b_ a_l_ a_c_ i_ j_ w h).weaken (Sub.cons (Sub.cons (Sub.cons (Sub.nil _) e2) e1) e0)) stops_nil)) (Eq.mp (synclaw_Marked.L2b_eq a_b a_l a_c i j l w N1 N2 R ) h)
def synclaw_Marked.L2 (a_b : Option Addr) (a_l a_c : Nat) (i j l : Int) (w : World) (N1 : Option Addr → Nat → Nat → Int → Int → World → Prop) (R : Bool → World → Prop) : Prop :=
  ∃ (I : Nat → Option Addr → Nat → Nat → Int → Int → Int → World → Prop) (m : Nat), I m a_b a_l a_c i j l w ∧ ∀ m a_b a_l a_c i j l w, I m a_b a_l a_c i j l w → synclaw_Marked.L2b a_b a_l a_c i j l w N1 (fun a_b' a_l' a_c' i' j' l' w' => ∃ m', m' < m ∧ I m' a_b' a_l' a_c' i' j' l' w') R
theorem synclaw_Marked.L2_sound {R : Bool → World → Prop} {N1 : Option Addr → Nat → Nat → Int → Int → World → Prop} (hN1 : ∀ a_b a_l a_c i j w, N1 a_b a_l a_c i j w → KW Tryz.prog 113 36 (synclaw_Marked.RV R) ([(0, [1, 0, 1, 0, 0]), (2, [1, 0, 1, 0, 0]), (1, [0]), (0, [1, 1])].map (toItem (Tryz.f113.body.getD .skip))) [(0, .slice a_b a_l a_c), (1, .int .i64 i), (5, .int .i64 j)] w) (a_b : Option Addr) (a_l a_c : Nat) (i j l : Int) (w : World) (h : synclaw_Marked.L2 a_b a_l a_c i j l w N1 R) :
    KW Tryz.prog 113 36 (synclaw_Marked.RV R) ([(0, [1, 0, 1, 0, 0, 1, 0, 0, 1, 0, 1, 0, 0]), (2, [1, 0, 1, 0, 0, 1, 0, 0, 1, 0, 1, 0, 0]), (1, [2]), (1, [1]), (0, [1, 0, 1, 0, 0, 1, 1]), (2, [1, 0, 1, 0, 0]), (1, [0]), (0, [1, 1])].map (toItem (Tryz.f113.body.getD .skip))) [(0, .slice a_b a_l a_c), (1, .int .i64 i), (5, .int .i64 j), (6, .int .i64 l)] w := by
  obtain ⟨I, m, hBase, hr⟩ := h
  refine KW.loop (fun m σ w => ∃ (a_b : Option Addr) (a_l a_c : Nat) (i j l : Int), σ = [(0, .slice a_b a_l a_c), (1, .int .i64 i), (5, .int .i64 j), (6, .int .i64 l)] ∧ I m a_b a_l a_c i j l w) ?_ m _ w ⟨a_b, a_l, a_c, i, j, l, rfl, hBase⟩
  rintro m ih σ w ⟨a_b, a_l, a_c, i, j, l, rfl, hI⟩
  exact synclaw_Marked.L2b_sound hN1 (N2 := fun a_b' a_l' a_c' i' j' l' w' => ∃ m', m' < m ∧ I m' a_b' a_l' a_c' i' j' l' w') (fun a_b' a_l' a_c' i' j' l' w' hx => by obtain ⟨m', hlt, hI'⟩ := hx; exact ih m' hlt _ w' ⟨a_b', a_l', a_c', i', j', l', rfl, hI'⟩) a_b a_l a_c i j l w (hr m a_b a_l a_c i j l w hI)
def synclaw_Marked.L1b (a_b : Option Addr) (a_l a_c : Nat) (i j : Int) (w : World)  (N1 : Option Addr → Nat → Nat → Int → Int → World → Prop) (R : Bool → World → Prop) : Prop :=
  Bm (decide (j < ((a_l : Nat) : Int))) (
    Bm (j != i) (
      synclaw_Marked.L2 a_b a_l a_c i j (0 : Int) w N1 R) (
      N1 a_b a_l a_c i (IntKind.i64.wrap (j + (1 : Int))) w)) (
    R false w)
theorem synclaw_Marked.L1b_eq (a_b : Option Addr) (a_l a_c : Nat) (i j : Int) (w : World)  (N1 : Option Addr → Nat → Nat → Int → Int → World → Prop) (R : Bool → World → Prop) (sL2 : Option Addr → Nat → Nat → Int → Int → Int → World → Prop) :
    (
  Bm (decide (j < ((a_l : Nat) : Int))) (
    Bm (j != i) (
      sL2 a_b a_l a_c i j (0 : Int) w) (
      N1 a_b a_l a_c i (IntKind.i64.wrap (j + (1 : Int))) w)) (
    R false w)) = kstep Tryz.prog 36 Tryz.f113.results.toList (Tryz.f113.body.getD .skip) (synclaw_Marked.RV R) (kvc Tryz.prog 36 Tryz.f113.results.toList (Tryz.f113.body.getD .skip) (synclaw_Marked.RV R) [([(0, [1, 0, 1, 0, 0, 1, 0, 0, 1, 0, 1, 0, 0]), (2, [1, 0, 1, 0, 0, 1, 0, 0, 1, 0, 1, 0, 0]), (1, [2]), (1, [1]), (0, [1, 0, 1, 0, 0, 1, 1]), (2, [1, 0, 1, 0, 0]), (1, [0]), (0, [1, 1])], fun σ w => dL (slotOf σ 0) fun a_b_ a_l_ a_c_ => dI .i64 (slotOf σ 1) fun i_ => dI .i64 (slotOf σ 5) fun j_ => dI .i64 (slotOf σ 6) fun l_ => sL2 a_b_ a_l_ a_c_ i_ j_ l_ w),
    ([(0, [1, 0, 1, 0, 0]), (2, [1, 0, 1, 0, 0]), (1, [0]), (0, [1, 1])], fun σ w => dL (slotOf σ 0) fun a_b_ a_l_ a_c_ => dI .i64 (slotOf σ 1) fun i_ => dI .i64 (slotOf σ 5) fun j_ => N1 a_b_ a_l_ a_c_ i_ j_ w)] 2000) [(0, [1, 0, 1, 0, 0]), (2, [1, 0, 1, 0, 0]), (1, [0]), (0, [1, 1])] [(0, .slice a_b a_l a_c), (1, .int .i64 i), (5, .int .i64 j)] w := by kernel_rfl
theorem synclaw_Marked.L1b_sound {R : Bool → World → Prop} {N1 : Option Addr → Nat → Nat → Int → Int → World → Prop} (hN1 : ∀ a_b a_l a_c i j w, N1 a_b a_l a_c i j w → KW Tryz.prog 113 36 (synclaw_Marked.RV R) ([(0, [1, 0, 1, 0, 0]), (2, [1, 0, 1, 0, 0]), (1, [0]), (0, [1, 1])].map (toItem (Tryz.f113.body.getD .skip))) [(0, .slice a_b a_l a_c), (1, .int .i64 i), (5, .int .i64 j)] w) (a_b : Option Addr) (a_l a_c : Nat) (i j : Int) (w : World) (h : synclaw_Marked.L1b a_b a_l a_c i j w  N1 R) :
    KW Tryz.prog 113 36 (synclaw_Marked.RV R) ([(0, [1, 0, 1, 0, 0]), (2, [1, 0, 1, 0, 0]), (1, [0]), (0, [1, 1])].map (toItem (Tryz.f113.body.getD .skip))) [(0, .slice a_b a_l a_c), (1, .int .i64 i), (5, .int .i64 j)] w := by
  exact block_spec Tryz.func113 Tryz.mixed (stops_cons (fun σ w h => by
      obtain ⟨a_b_, a_l_, a_c_, e0, h⟩ := dL_elim h
      obtain ⟨i_, e1, h⟩ := dI_elim h
      obtain ⟨j_, e2, h⟩ := dI_elim h
      obtain ⟨l_, e3, h⟩ := dI_elim h
      exact (synclaw_Marked.L2_sound hN1 a_b_ a_l_ a_c_ i_ j_ l_ w h).weaken (Sub.cons (Sub.cons (Sub.cons (Sub.cons (Sub.nil _) e3) e2) e1) e0)) (stops_cons (fun σ w h => by
      obtain ⟨a_b_, a_l_, a_c_, e0, h⟩ := dL_elim h
      obtain ⟨i_, e1, h⟩ := dI_elim h
      obtain ⟨j_, e2, h⟩ := dI_elim h
      exact (hN1 a_b_ a_l_ a_c_ i_ j_ w h).weaken (Sub.cons (Sub.cons (Sub.cons (Sub.nil _) e2) e1) e0)) stops_nil)) (Eq.mp (synclaw_Marked.L1b_eq a_b a_l a_c i j w  N1 R (fun a_b_ a_l_ a_c_ i_ j_ l_ w => synclaw_Marked.L2 a_b_ a_l_ a_c_ i_ j_ l_ w N1 R)) h)
def synclaw_Marked.L1 (a_b : Option Addr) (a_l a_c : Nat) (i j : Int) (w : World)  (R : Bool → World → Prop) : Prop :=
  ∃ (I : Nat → Option Addr → Nat → Nat → Int → Int → World → Prop) (m : Nat), I m a_b a_l a_c i j w ∧ ∀ m a_b a_l a_c i j w, I m a_b a_l a_c i j w → synclaw_Marked.L1b a_b a_l a_c i j w  (fun a_b' a_l' a_c' i' j' w' => ∃ m', m' < m ∧ I m' a_b' a_l' a_c' i' j' w') R
theorem synclaw_Marked.L1_sound {R : Bool → World → Prop}  (a_b : Option Addr) (a_l a_c : Nat) (i j : Int) (w : World) (h : synclaw_Marked.L1 a_b a_l a_c i j w  R) :
    KW Tryz.prog 113 36 (synclaw_Marked.RV R) ([(0, [1, 0, 1, 0, 0]), (2, [1, 0, 1, 0, 0]), (1, [0]), (0, [1, 1])].map (toItem (Tryz.f113.body.getD .skip))) [(0, .slice a_b a_l a_c), (1, .int .i64 i), (5, .int .i64 j)] w := by
  obtain ⟨I, m, hBase, hr⟩ := h
  refine KW.loop (fun m σ w => ∃ (a_b : Option Addr) (a_l a_c : Nat) (i j : Int), σ = [(0, .slice a_b a_l a_c), (1, .int .i64 i), (5, .int .i64 j)] ∧ I m a_b a_l a_c i j w) ?_ m _ w ⟨a_b, a_l, a_c, i, j, rfl, hBase⟩
  rintro m ih σ w ⟨a_b, a_l, a_c, i, j, rfl, hI⟩
  exact synclaw_Marked.L1b_sound  (N1 := fun a_b' a_l' a_c' i' j' w' => ∃ m', m' < m ∧ I m' a_b' a_l' a_c' i' j' w') (fun a_b' a_l' a_c' i' j' w' hx => by obtain ⟨m', hlt, hI'⟩ := hx; exact ih m' hlt _ w' ⟨a_b', a_l', a_c', i', j', rfl, hI'⟩) a_b a_l a_c i j w (hr m a_b a_l a_c i j w hI)
def synclaw_Marked.B0 (a_b : Option Addr) (a_l a_c : Nat) (i : Int) (w : World)   (R : Bool → World → Prop) : Prop :=
  synclaw_Marked.L1 a_b a_l a_c i (0 : Int) w  R
theorem synclaw_Marked.B0_eq (a_b : Option Addr) (a_l a_c : Nat) (i : Int) (w : World)   (R : Bool → World → Prop) (sL1 : Option Addr → Nat → Nat → Int → Int → World → Prop) :
    (
  sL1 a_b a_l a_c i (0 : Int) w) = kstep Tryz.prog 36 Tryz.f113.results.toList (Tryz.f113.body.getD .skip) (synclaw_Marked.RV R) (kvc Tryz.prog 36 Tryz.f113.results.toList (Tryz.f113.body.getD .skip) (synclaw_Marked.RV R) [([(0, [1, 0, 1, 0, 0]), (2, [1, 0, 1, 0, 0]), (1, [0]), (0, [1, 1])], fun σ w => dL (slotOf σ 0) fun a_b_ a_l_ a_c_ => dI .i64 (slotOf σ 1) fun i_ => dI .i64 (slotOf σ 5) fun j_ => sL1 a_b_ a_l_ a_c_ i_ j_ w)] 2000) [(0, [])] [(0, .slice a_b a_l a_c), (1, .int .i64 i)] w := by kernel_rfl
theorem synclaw_Marked.B0_sound {R : Bool → World → Prop}  (a_b : Option Addr) (a_l a_c : Nat) (i : Int) (w : World) (h : synclaw_Marked.B0 a_b a_l a_c i w   R) :
    KW Tryz.prog 113 36 (synclaw_Marked.RV R) ([(0, [])].map (toItem (Tryz.f113.body.getD .skip))) [(0, .slice a_b a_l a_c), (1, .int .i64 i)] w := by
  exact block_spec Tryz.func113 Tryz.mixed (stops_cons (fun σ w h => by
      obtain ⟨a_b_, a_l_, a_c_, e0, h⟩ := dL_elim h
      obtain ⟨i_, e1, h⟩ := dI_elim h
      obtain ⟨j_, e2, h⟩ := dI_elim h
      exact (synclaw_Marked.L1_sound  a_b_ a_l_ a_c_ i_ j_ w h).weaken (Sub.cons (Sub.cons (Sub.cons (Sub.nil _) e2) e1) e0)) stops_nil) (Eq.mp (synclaw_Marked.B0_eq a_b a_l a_c i w   R (fun a_b_ a_l_ a_c_ i_ j_ w => synclaw_Marked.L1 a_b_ a_l_ a_c_ i_ j_ w  R)) h)
theorem synclaw_Marked.sound (a_b : Option Addr) (a_l a_c : Nat) (i : Int) (w : World) (R : Bool → World → Prop) (h : synclaw_Marked.B0 a_b a_l a_c i w R) : synclaw_Marked.Call a_b a_l a_c i w R := by
  have hc := calls_of_block (args := #[.slice a_b a_l a_c, .int .i64 i]) Tryz.func113 (body := (Tryz.f113.body.getD .skip)) (by kernel_rfl) (by kernel_rfl) (args_slot _) (synclaw_Marked.B0_sound a_b a_l a_c i w h)
  exact hc.mono fun e w' he => by
    obtain ⟨v, rfl, hv⟩ := he
    exact synclaw_Marked.RV_elim hv
def api_MsgOK.B5 (m0 : Nat) (i : Int) (t110 : Bool) (w : World) (N1 : Nat → Int → World → Prop)  (R : Bool → World → Prop) : Prop :=
  Bm t110 (
    R false w) (
    N1 m0 (IntKind.i64.wrap (i + (1 : Int))) w)
theorem api_MsgOK.B5_eq (m0 : Nat) (i : Int) (t110 : Bool) (w : World) (N1 : Nat → Int → World → Prop)  (R : Bool → World → Prop)  :
    (
  Bm t110 (
    R false w) (
    N1 m0 (IntKind.i64.wrap (i + (1 : Int))) w)) = kstep Tryz.prog 111 Tryz.f114.results.toList (Tryz.f114.body.getD .skip) (api_MsgOK.RV R) (kvc Tryz.prog 111 Tryz.f114.results.toList (Tryz.f114.body.getD .skip) (api_MsgOK.RV R) [([(0, [1, 1, 1, 1, 1, 0, 1, 0, 0]), (2, [1, 1, 1, 1, 1, 0, 1, 0, 0]), (1, [0]), (0, [1, 1, 1, 1, 1, 1])], fun σ w => dK (slotOf σ 1) fun m0_ => dI .i64 (slotOf σ 3) fun i_ => N1 m0_ i_ w)] 2000) [(0, [1, 1, 1, 1, 1, 0, 1, 0, 0, 1, 0, 0, 1]), (1, [1]), (0, [1, 1, 1, 1, 1, 0, 1, 0, 0, 1, 1]), (2, [1, 1, 1, 1, 1, 0, 1, 0, 0]), (1, [0]), (0, [1, 1, 1, 1, 1, 1])] [(1, .pointer (some ⟨m0, 0, none⟩)), (3, .int .i64 i), (110, .bool t110)] w := by kernel_rfl
theorem api_MsgOK.B5_sound {R : Bool → World → Prop} {N1 : Nat → Int → World → Prop} (hN1 : ∀ m0 i w, N1 m0 i w → KW Tryz.prog 114 111 (api_MsgOK.RV R) ([(0, [1, 1, 1, 1, 1, 0, 1, 0, 0]), (2, [1, 1, 1, 1, 1, 0, 1, 0, 0]), (1, [0]), (0, [1, 1, 1, 1, 1, 1])].map (toItem (Tryz.f114.body.getD .skip))) [(1, .pointer (some ⟨m0, 0, none⟩)), (3, .int .i64 i)] w) (m0 : Nat) (i : Int) (t110 : Bool) (w : World) (h : api_MsgOK.B5 m0 i t110 w N1  R) :
    KW Tryz.prog 114 111 (api_MsgOK.RV R) ([(0, [1, 1, 1, 1, 1, 0, 1, 0, 0, 1, 0, 0, 1]), (1, [1]), (0, [1, 1, 1, 1, 1, 0, 1, 0, 0, 1, 1]), (2, [1, 1, 1, 1, 1, 0, 1, 0, 0]), (1, [0]), (0, [1, 1, 1, 1, 1, 1])].map (toItem (Tryz.f114.body.getD .skip))) [(1, .pointer (some ⟨m0, 0, none⟩)), (3, .int .i64 i), (110, .bool t110)] w := by
  exact block_spec Tryz.func114 Tryz.mixed (stops_cons (fun σ w h => by
      obtain ⟨m0_, e0, h⟩ := dK_elim h
      obtain ⟨i_, e1, h⟩ := dI_elim h
      exact (hN1 m0_ i_ w h).weaken (Sub.cons (Sub.cons (Sub.nil _) e1) e0)) stops_nil) (Eq.mp (api_MsgOK.B5_eq m0 i t110 w N1  R ) h)
def api_MsgOK.L1b (m0 : Nat) (i : Int) (w : World)  (N1 : Nat → Int → World → Prop) (R : Bool → World → Prop) : Prop :=
  LdL ⟨m0, 8, none⟩ w fun x80_b x80_l x80_c =>
  Bm (decide (i < ((x80_l : Nat) : Int))) (
    LdL ⟨m0, 8, none⟩ w fun x86_b x86_l x86_c =>
    Pn x86_b fun a =>
    (0 ≤ i ∧ i < ((x86_l : Nat) : Int)) ∧
    LdI .i64 (Addr.add a (i.toNat * 2)) w fun x90 =>
    Bm (decide (x90 < (0 : Int))) (
      api_MsgOK.B5 m0 i true w N1 R) (
      LdL ⟨m0, 8, none⟩ w fun x94_b x94_l x94_c =>
      Pn x94_b fun a_1 =>
      (0 ≤ i ∧ i < ((x94_l : Nat) : Int)) ∧
      LdI .i64 (Addr.add a_1 (i.toNat * 2)) w fun x98 =>
      Bm (decide (x98 > (72057594037927936 : Int))) (
        api_MsgOK.B5 m0 i true w N1 R) (
        LdL ⟨m0, 8, none⟩ w fun x103_b x103_l x103_c =>
        Pn x103_b fun a_2 =>
        (0 ≤ i ∧ i < ((x103_l : Nat) : Int)) ∧
        LdS ((Addr.add a_2 (i.toNat * 2)).add 1) w fun x107 =>
        api_MsgOK.B5 m0 i (decide (((x107.size : Nat) : Int) > (24 : Int))) w N1 R))) (
    R true w)
theorem api_MsgOK.L1b_eq (m0 : Nat) (i : Int) (w : World)  (N1 : Nat → Int → World → Prop) (R : Bool → World → Prop) (sB5 : Nat → Int → Bool → World → Prop) :
    (
  LdL ⟨m0, 8, none⟩ w fun x80_b x80_l x80_c =>
  Bm (decide (i < ((x80_l : Nat) : Int))) (
    LdL ⟨m0, 8, none⟩ w fun x86_b x86_l x86_c =>
    Pn x86_b fun a =>
    (0 ≤ i ∧ i < ((x86_l : Nat) : Int)) ∧
    LdI .i64 (Addr.add a (i.toNat * 2)) w fun x90 =>
    Bm (decide (x90 < (0 : Int))) (
      sB5 m0 i true w) (
      LdL ⟨m0, 8, none⟩ w fun x94_b x94_l x94_c =>
      Pn x94_b fun a_1 =>
      (0 ≤ i ∧ i < ((x94_l : Nat) : Int)) ∧
      LdI .i64 (Addr.add a_1 (i.toNat * 2)) w fun x98 =>
      Bm (decide (x98 > (72057594037927936 : Int))) (
        sB5 m0 i true w) (
        LdL ⟨m0, 8, none⟩ w fun x103_b x103_l x103_c =>
        Pn x103_b fun a_2 =>
        (0 ≤ i ∧ i < ((x103_l : Nat) : Int)) ∧
        LdS ((Addr.add a_2 (i.toNat * 2)).add 1) w fun x107 =>
        sB5 m0 i (decide (((x107.size : Nat) : Int) > (24 : Int))) w))) (
    R true w)) = kstep Tryz.prog 111 Tryz.f114.results.toList (Tryz.f114.body.getD .skip) (api_MsgOK.RV R) (kvc Tryz.prog 111 Tryz.f114.results.toList (Tryz.f114.body.getD .skip) (api_MsgOK.RV R) [([(0, [1, 1, 1, 1, 1, 0, 1, 0, 0, 1, 0, 0, 1]), (1, [1]), (0, [1, 1, 1, 1, 1, 0, 1, 0, 0, 1, 1]), (2, [1, 1, 1, 1, 1, 0, 1, 0, 0]), (1, [0]), (0, [1, 1, 1, 1, 1, 1])], fun σ w => dK (slotOf σ 1) fun m0_ => dI .i64 (slotOf σ 3) fun i_ => dB (slotOf σ 110) fun t110_ => sB5 m0_ i_ t110_ w)] 2000) [(0, [1, 1, 1, 1, 1, 0, 1, 0, 0]), (2, [1, 1, 1, 1, 1, 0, 1, 0, 0]), (1, [0]), (0, [1, 1, 1, 1, 1, 1])] [(1, .pointer (some ⟨m0, 0, none⟩)), (3, .int .i64 i)] w := by kernel_rfl
theorem api_MsgOK.L1b_sound {R : Bool → World → Prop} {N1 : Nat → Int → World → Prop} (hN1 : ∀ m0 i w, N1 m0 i w → KW Tryz.prog 114 111 (api_MsgOK.RV R) ([(0, [1, 1, 1, 1, 1, 0, 1, 0, 0]), (2, [1, 1, 1, 1, 1, 0, 1, 0, 0]), (1, [0]), (0, [1, 1, 1, 1, 1, 1])].map (toItem (Tryz.f114.body.getD .skip))) [(1, .pointer (some ⟨m0, 0, none⟩)), (3, .int .i64 i)] w) (m0 : Nat) (i : Int) (w : World) (h : api_MsgOK.L1b m0 i w  N1 R) :
    KW Tryz.prog 114 111 (api_MsgOK.RV R) ([(0, [1, 1, 1, 1, 1, 0, 1, 0, 0]), (2, [1, 1, 1, 1, 1, 0, 1, 0, 0]), (1, [0]), (0, [1, 1, 1, 1, 1, 1])].map (toItem (Tryz.f114.body.getD .skip))) [(1, .pointer (some ⟨m0, 0, none⟩)), (3, .int .i64 i)] w := by
  exact block_spec Tryz.func114 Tryz.mixed (stops_cons (fun σ w h => by
      obtain ⟨m0_, e0, h⟩ := dK_elim h
      obtain ⟨i_, e1, h⟩ := dI_elim h
      obtain ⟨t110_, e2, h⟩ := dB_elim h
      exact (api_MsgOK.B5_sound hN1 m0_ i_ t110_ w h).weaken (Sub.cons (Sub.cons (Sub.cons (Sub.nil _) e2) e1) e0)) stops_nil) (Eq.mp (api_MsgOK.L1b_eq m0 i w  N1 R (fun m0_ i_ t110_ w => api_MsgOK.B5 m0_ i_ t110_ w N1 R)) h)
def api_MsgOK.L1 (m0 : Nat) (i : Int) (w : World)  (R : Bool → World → Prop) : Prop :=
  ∃ (I : Nat → Nat → Int → World → Prop) (m : Nat), I m m0 i w ∧ ∀ m m0 i w, I m m0 i w → api_MsgOK.L1b m0 i w  (fun m0' i' w' => ∃ m', m' < m ∧ I m' m0' i' w') R
theorem api_MsgOK.L1_sound {R : Bool → World → Prop}  (m0 : Nat) (i : Int) (w : World) (h : api_MsgOK.L1 m0 i w  R) :
    KW Tryz.prog 114 111 (api_MsgOK.RV R) ([(0, [1, 1, 1, 1, 1, 0, 1, 0, 0]), (2, [1, 1, 1, 1, 1, 0, 1, 0, 0]), (1, [0]), (0, [1, 1, 1, 1, 1, 1])].map (toItem (Tryz.f114.body.getD .skip))) [(1, .pointer (some ⟨m0, 0, none⟩)), (3, .int .i64 i)] w := by
  obtain ⟨I, m, hBase, hr⟩ := h
  refine KW.loop (fun m σ w => ∃ (m0 : Nat) (i : Int), σ = [(1, .pointer (some ⟨m0, 0, none⟩)), (3, .int .i64 i)] ∧ I m m0 i w) ?_ m _ w ⟨m0, i, rfl, hBase⟩
  rintro m ih σ w ⟨m0, i, rfl, hI⟩
  exact api_MsgOK.L1b_sound  (N1 := fun m0' i' w' => ∃ m', m' < m ∧ I m' m0' i' w') (fun m0' i' w' hx => by obtain ⟨m', hlt, hI'⟩ := hx; exact ih m' hlt _ w' ⟨m0', i', rfl, hI'⟩) m0 i w (hr m m0 i w hI)
def api_MsgOK.B4 (m0 : Nat) (t77 : Bool) (w : World)   (R : Bool → World → Prop) : Prop :=
  Bm t77 (
    R false w) (
    api_MsgOK.L1 m0 (0 : Int) w  R)
theorem api_MsgOK.B4_eq (m0 : Nat) (t77 : Bool) (w : World)   (R : Bool → World → Prop) (sL1 : Nat → Int → World → Prop) :
    (
  Bm t77 (
    R false w) (
    sL1 m0 (0 : Int) w)) = kstep Tryz.prog 111 Tryz.f114.results.toList (Tryz.f114.body.getD .skip) (api_MsgOK.RV R) (kvc Tryz.prog 111 Tryz.f114.results.toList (Tryz.f114.body.getD .skip) (api_MsgOK.RV R) [([(0, [1, 1, 1, 1, 1, 0, 1, 0, 0]), (2, [1, 1, 1, 1, 1, 0, 1, 0, 0]), (1, [0]), (0, [1, 1, 1, 1, 1, 1])], fun σ w => dK (slotOf σ 1) fun m0_ => dI .i64 (slotOf σ 3) fun i_ => sL1 m0_ i_ w)] 2000) [(0, [1, 1, 1, 1, 0, 1]), (0, [1, 1, 1, 1, 1])] [(1, .pointer (some ⟨m0, 0, none⟩)), (77, .bool t77)] w := by kernel_rfl
theorem api_MsgOK.B4_sound {R : Bool → World → Prop}  (m0 : Nat) (t77 : Bool) (w : World) (h : api_MsgOK.B4 m0 t77 w   R) :
    KW Tryz.prog 114 111 (api_MsgOK.RV R) ([(0, [1, 1, 1, 1, 0, 1]), (0, [1, 1, 1, 1, 1])].map (toItem (Tryz.f114.body.getD .skip))) [(1, .pointer (some ⟨m0, 0, none⟩)), (77, .bool t77)] w := by
  exact block_spec Tryz.func114 Tryz.mixed (stops_cons (fun σ w h => by
      obtain ⟨m0_, e0, h⟩ := dK_elim h
      obtain ⟨i_, e1, h⟩ := dI_elim h
      exact (api_MsgOK.L1_sound  m0_ i_ w h).weaken (Sub.cons (Sub.cons (Sub.nil _) e1) e0)) stops_nil) (Eq.mp (api_MsgOK.B4_eq m0 t77 w   R (fun m0_ i_ w => api_MsgOK.L1 m0_ i_ w  R)) h)
def api_MsgOK.B3 (m0 : Nat) (t67 : Bool) (w : World)   (R : Bool → World → Prop) : Prop :=
  Bm t67 (
    R false w) (
    LdL ⟨m0, 8, none⟩ w fun x69_b x69_l x69_c =>
    Bm (decide (((x69_l : Nat) : Int) > (2 : Int))) (
      api_MsgOK.B4 m0 true w  R) (
      LdS ⟨m0, 9, none⟩ w fun x74 =>
      api_MsgOK.B4 m0 (decide (((x74.size : Nat) : Int) > (128 : Int))) w  R))
theorem api_MsgOK.B3_eq (m0 : Nat) (t67 : Bool) (w : World)   (R : Bool → World → Prop) (sB4 : Nat → Bool → World → Prop) :
    (
  Bm t67 (
    R false w) (
    LdL ⟨m0, 8, none⟩ w fun x69_b x69_l x69_c =>
    Bm (decide (((x69_l : Nat) : Int) > (2 : Int))) (
      sB4 m0 true w) (
      LdS ⟨m0, 9, none⟩ w fun x74 =>
      sB4 m0 (decide (((x74.size : Nat) : Int) > (128 : Int))) w))) = kstep Tryz.prog 111 Tryz.f114.results.toList (Tryz.f114.body.getD .skip) (api_MsgOK.RV R) (kvc Tryz.prog 111 Tryz.f114.results.toList (Tryz.f114.body.getD .skip) (api_MsgOK.RV R) [([(0, [1, 1, 1, 1, 0, 1]), (0, [1, 1, 1, 1, 1])], fun σ w => dK (slotOf σ 1) fun m0_ => dB (slotOf σ 77) fun t77_ => sB4 m0_ t77_ w)] 2000) [(0, [1, 1, 1, 0, 1]), (0, [1, 1, 1, 1])] [(1, .pointer (some ⟨m0, 0, none⟩)), (67, .bool t67)] w := by kernel_rfl
theorem api_MsgOK.B3_sound {R : Bool → World → Prop}  (m0 : Nat) (t67 : Bool) (w : World) (h : api_MsgOK.B3 m0 t67 w   R) :
    KW Tryz.prog 114 111 (api_MsgOK.RV R) ([(0, [1, 1, 1, 0, 1]), (0, [1, 1, 1, 1])].map (toItem (Tryz.f114.body.getD .skip))) [(1, .pointer (some ⟨m0, 0, none⟩)), (67, .bool t67)] w := by
  exact block_spec Tryz.func114 Tryz.mixed (stops_cons (fun σ w h => by
      obtain ⟨m0_, e0, h⟩ := dK_elim h
      obtain ⟨t77_, e1, h⟩ := dB_elim h
      exact (api_MsgOK.B4_sound  m0_ t77_ w h).weaken (Sub.cons (Sub.cons (Sub.nil _) e1) e0)) stops_nil) (Eq.mp (api_MsgOK.B3_eq m0 t67 w   R (fun m0_ t77_ w => api_MsgOK.B4 m0_ t77_ w  R)) h)
def api_MsgOK.B2 (m0 : Nat) (t49 : Bool) (w : World)   (R : Bool → World → Prop) : Prop :=
  Bm t49 (
    R false w) (
    LdI .i64 ⟨m0, 5, none⟩ w fun x51 =>
    Bm (decide (x51 < (0 : Int))) (
      api_MsgOK.B3 m0 true w  R) (
      LdI .i64 ⟨m0, 5, none⟩ w fun x55 =>
      Bm (decide (x55 > (72057594037927936 : Int))) (
        api_MsgOK.B3 m0 true w  R) (
        LdI .i64 ⟨m0, 6, none⟩ w fun x60 =>
        Bm (decide (x60 < (0 : Int))) (
          api_MsgOK.B3 m0 true w  R) (
          LdI .i64 ⟨m0, 6, none⟩ w fun x65 =>
          api_MsgOK.B3 m0 (decide (x65 > (72057594037927936 : Int))) w  R))))
theorem api_MsgOK.B2_eq (m0 : Nat) (t49 : Bool) (w : World)   (R : Bool → World → Prop) (sB3 : Nat → Bool → World → Prop) :
    (
  Bm t49 (
    R false w) (
    LdI .i64 ⟨m0, 5, none⟩ w fun x51 =>
    Bm (decide (x51 < (0 : Int))) (
      sB3 m0 true w) (
      LdI .i64 ⟨m0, 5, none⟩ w fun x55 =>
      Bm (decide (x55 > (72057594037927936 : Int))) (
        sB3 m0 true w) (
        LdI .i64 ⟨m0, 6, none⟩ w fun x60 =>
        Bm (decide (x60 < (0 : Int))) (
          sB3 m0 true w) (
          LdI .i64 ⟨m0, 6, none⟩ w fun x65 =>
          sB3 m0 (decide (x65 > (72057594037927936 : Int))) w))))) = kstep Tryz.prog 111 Tryz.f114.results.toList (Tryz.f114.body.getD .skip) (api_MsgOK.RV R) (kvc Tryz.prog 111 Tryz.f114.results.toList (Tryz.f114.body.getD .skip) (api_MsgOK.RV R) [([(0, [1, 1, 1, 0, 1]), (0, [1, 1, 1, 1])], fun σ w => dK (slotOf σ 1) fun m0_ => dB (slotOf σ 67) fun t67_ => sB3 m0_ t67_ w)] 2000) [(0, [1, 1, 0, 1]), (0, [1, 1, 1])] [(1, .pointer (some ⟨m0, 0, none⟩)), (49, .bool t49)] w := by kernel_rfl
theorem api_MsgOK.B2_sound {R : Bool → World → Prop}  (m0 : Nat) (t49 : Bool) (w : World) (h : api_MsgOK.B2 m0 t49 w   R) :
    KW Tryz.prog 114 111 (api_MsgOK.RV R) ([(0, [1, 1, 0, 1]), (0, [1, 1, 1])].map (toItem (Tryz.f114.body.getD .skip))) [(1, .pointer (some ⟨m0, 0, none⟩)), (49, .bool t49)] w := by
  exact block_spec Tryz.func114 Tryz.mixed (stops_cons (fun σ w h => by
      obtain ⟨m0_, e0, h⟩ := dK_elim h
      obtain ⟨t67_, e1, h⟩ := dB_elim h
      exact (api_MsgOK.B3_sound  m0_ t67_ w h).weaken (Sub.cons (Sub.cons (Sub.nil _) e1) e0)) stops_nil) (Eq.mp (api_MsgOK.B2_eq m0 t49 w   R (fun m0_ t67_ w => api_MsgOK.B3 m0_ t67_ w  R)) h)
def api_MsgOK.B1 (m0 : Nat) (t31 : Bool) (w : World)   (R : Bool → World → Prop) : Prop :=
  Bm t31 (
    R false w) (
    LdI .i64 ⟨m0, 3, none⟩ w fun x33 =>
    Bm (decide (x33 < (0 : Int))) (
      api_MsgOK.B2 m0 true w  R) (
      LdI .i64 ⟨m0, 3, none⟩ w fun x37 =>
      Bm (decide (x37 > (72057594037927936 : Int))) (
        api_MsgOK.B2 m0 true w  R) (
        LdI .i64 ⟨m0, 4, none⟩ w fun x42 =>
        Bm (decide (x42 < (0 : Int))) (
          api_MsgOK.B2 m0 true w  R) (
          LdI .i64 ⟨m0, 4, none⟩ w fun x47 =>
          api_MsgOK.B2 m0 (decide (x47 > (72057594037927936 : Int))) w  R))))
theorem api_MsgOK.B1_eq (m0 : Nat) (t31 : Bool) (w : World)   (R : Bool → World → Prop) (sB2 : Nat → Bool → World → Prop) :
    (
  Bm t31 (
    R false w) (
    LdI .i64 ⟨m0, 3, none⟩ w fun x33 =>
    Bm (decide (x33 < (0 : Int))) (
      sB2 m0 true w) (
      LdI .i64 ⟨m0, 3, none⟩ w fun x37 =>
      Bm (decide (x37 > (72057594037927936 : Int))) (
        sB2 m0 true w) (
        LdI .i64 ⟨m0, 4, none⟩ w fun x42 =>
        Bm (decide (x42 < (0 : Int))) (
          sB2 m0 true w) (
          LdI .i64 ⟨m0, 4, none⟩ w fun x47 =>
          sB2 m0 (decide (x47 > (72057594037927936 : Int))) w))))) = kstep Tryz.prog 111 Tryz.f114.results.toList (Tryz.f114.body.getD .skip) (api_MsgOK.RV R) (kvc Tryz.prog 111 Tryz.f114.results.toList (Tryz.f114.body.getD .skip) (api_MsgOK.RV R) [([(0, [1, 1, 0, 1]), (0, [1, 1, 1])], fun σ w => dK (slotOf σ 1) fun m0_ => dB (slotOf σ 49) fun t49_ => sB2 m0_ t49_ w)] 2000) [(0, [1, 0, 1]), (0, [1, 1])] [(1, .pointer (some ⟨m0, 0, none⟩)), (31, .bool t31)] w := by kernel_rfl
theorem api_MsgOK.B1_sound {R : Bool → World → Prop}  (m0 : Nat) (t31 : Bool) (w : World) (h : api_MsgOK.B1 m0 t31 w   R) :
    KW Tryz.prog 114 111 (api_MsgOK.RV R) ([(0, [1, 0, 1]), (0, [1, 1])].map (toItem (Tryz.f114.body.getD .skip))) [(1, .pointer (some ⟨m0, 0, none⟩)), (31, .bool t31)] w := by
  exact block_spec Tryz.func114 Tryz.mixed (stops_cons (fun σ w h => by
      obtain ⟨m0_, e0, h⟩ := dK_elim h
      obtain ⟨t49_, e1, h⟩ := dB_elim h
      exact (api_MsgOK.B2_sound  m0_ t49_ w h).weaken (Sub.cons (Sub.cons (Sub.nil _) e1) e0)) stops_nil) (Eq.mp (api_MsgOK.B1_eq m0 t31 w   R (fun m0_ t49_ w => api_MsgOK.B2 m0_ t49_ w  R)) h)
def api_MsgOK.B0 (m0_0 m0_1 m0_2 m0_3 m0_4 m0_5 m0_6 : Int) (m0_7 : Bool) (m0_8_b : Option Addr) (m0_8_l m0_8_c : Nat) (m0_9 : ByteArray) (w : World)   (R : Bool → World → Prop) : Prop :=
  New (.cells #[.int .i64 m0_0, .int .i64 m0_1, .int .i64 m0_2, .int .i64 m0_3, .int .i64 m0_4, .int .i64 m0_5, .int .i64 m0_6, .bool m0_7, .slice m0_8_b m0_8_l m0_8_c, .string m0_9] 40) w fun m0_ w1 =>
  LdI .i64 ⟨m0_, 0, none⟩ w1 fun x5 =>
  Bm (decide (x5 < (1 : Int))) (
    api_MsgOK.B1 m0_ true w1  R) (
    LdI .i64 ⟨m0_, 0, none⟩ w1 fun x9 =>
    Bm (decide (x9 > (5 : Int))) (
      api_MsgOK.B1 m0_ true w1  R) (
      LdI .i64 ⟨m0_, 1, none⟩ w1 fun x14 =>
      Bm (decide (x14 < (0 : Int))) (
        api_MsgOK.B1 m0_ true w1  R) (
        LdI .i64 ⟨m0_, 1, none⟩ w1 fun x19 =>
        Bm (decide (x19 ≥ (3 : Int))) (
          api_MsgOK.B1 m0_ true w1  R) (
          LdI .i64 ⟨m0_, 2, none⟩ w1 fun x24 =>
          Bm (decide (x24 < (0 : Int))) (
            api_MsgOK.B1 m0_ true w1  R) (
            LdI .i64 ⟨m0_, 2, none⟩ w1 fun x29 =>
            api_MsgOK.B1 m0_ (decide (x29 ≥ (3 : Int))) w1  R)))))
theorem api_MsgOK.B0_eq (m0_0 m0_1 m0_2 m0_3 m0_4 m0_5 m0_6 : Int) (m0_7 : Bool) (m0_8_b : Option Addr) (m0_8_l m0_8_c : Nat) (m0_9 : ByteArray) (w : World)   (R : Bool → World → Prop) (sB1 : Nat → Bool → World → Prop) :
    (
  New (.cells #[.int .i64 m0_0, .int .i64 m0_1, .int .i64 m0_2, .int .i64 m0_3, .int .i64 m0_4, .int .i64 m0_5, .int .i64 m0_6, .bool m0_7, .slice m0_8_b m0_8_l m0_8_c, .string m0_9] 40) w fun m0_ w1 =>
  LdI .i64 ⟨m0_, 0, none⟩ w1 fun x5 =>
  Bm (decide (x5 < (1 : Int))) (
    sB1 m0_ true w1) (
    LdI .i64 ⟨m0_, 0, none⟩ w1 fun x9 =>
    Bm (decide (x9 > (5 : Int))) (
      sB1 m0_ true w1) (
      LdI .i64 ⟨m0_, 1, none⟩ w1 fun x14 =>
      Bm (decide (x14 < (0 : Int))) (
        sB1 m0_ true w1) (
        LdI .i64 ⟨m0_, 1, none⟩ w1 fun x19 =>
        Bm (decide (x19 ≥ (3 : Int))) (
          sB1 m0_ true w1) (
          LdI .i64 ⟨m0_, 2, none⟩ w1 fun x24 =>
          Bm (decide (x24 < (0 : Int))) (
            sB1 m0_ true w1) (
            LdI .i64 ⟨m0_, 2, none⟩ w1 fun x29 =>
            sB1 m0_ (decide (x29 ≥ (3 : Int))) w1)))))) = kstep Tryz.prog 111 Tryz.f114.results.toList (Tryz.f114.body.getD .skip) (api_MsgOK.RV R) (kvc Tryz.prog 111 Tryz.f114.results.toList (Tryz.f114.body.getD .skip) (api_MsgOK.RV R) [([(0, [1, 0, 1]), (0, [1, 1])], fun σ w => dK (slotOf σ 1) fun m0_ => dB (slotOf σ 31) fun t31_ => sB1 m0_ t31_ w)] 2000) [(0, [])] [(0, .agg #[.int .i64 m0_0, .int .i64 m0_1, .int .i64 m0_2, .int .i64 m0_3, .int .i64 m0_4, .int .i64 m0_5, .int .i64 m0_6, .bool m0_7, .slice m0_8_b m0_8_l m0_8_c, .string m0_9])] w := by kernel_rfl
theorem api_MsgOK.B0_sound {R : Bool → World → Prop}  (m0_0 m0_1 m0_2 m0_3 m0_4 m0_5 m0_6 : Int) (m0_7 : Bool) (m0_8_b : Option Addr) (m0_8_l m0_8_c : Nat) (m0_9 : ByteArray) (w : World) (h : api_MsgOK.B0 m0_0 m0_1 m0_2 m0_3 m0_4 m0_5 m0_6 m0_7 m0_8_b m0_8_l m0_8_c m0_9 w   R) :
    KW Tryz.prog 114 111 (api_MsgOK.RV R) ([(0, [])].map (toItem (Tryz.f114.body.getD .skip))) [(0, .agg #[.int .i64 m0_0, .int .i64 m0_1, .int .i64 m0_2, .int .i64 m0_3, .int .i64 m0_4, .int .i64 m0_5, .int .i64 m0_6, .bool m0_7, .slice m0_8_b m0_8_l m0_8_c, .string m0_9])] w := by
  exact block_spec Tryz.func114 Tryz.mixed (stops_cons (fun σ w h => by
      obtain ⟨m0_, e0, h⟩ := dK_elim h
      obtain ⟨t31_, e1, h⟩ := dB_elim h
      exact (api_MsgOK.B1_sound  m0_ t31_ w h).weaken (Sub.cons (Sub.cons (Sub.nil _) e1) e0)) stops_nil) (Eq.mp (api_MsgOK.B0_eq m0_0 m0_1 m0_2 m0_3 m0_4 m0_5 m0_6 m0_7 m0_8_b m0_8_l m0_8_c m0_9 w   R (fun m0_ t31_ w => api_MsgOK.B1 m0_ t31_ w  R)) h)
theorem api_MsgOK.sound (m0_0 m0_1 m0_2 m0_3 m0_4 m0_5 m0_6 : Int) (m0_7 : Bool) (m0_8_b : Option Addr) (m0_8_l m0_8_c : Nat) (m0_9 : ByteArray) (w : World) (R : Bool → World → Prop) (h : api_MsgOK.B0 m0_0 m0_1 m0_2 m0_3 m0_4 m0_5 m0_6 m0_7 m0_8_b m0_8_l m0_8_c m0_9 w R) : api_MsgOK.Call m0_0 m0_1 m0_2 m0_3 m0_4 m0_5 m0_6 m0_7 m0_8_b m0_8_l m0_8_c m0_9 w R := by
  have hc := calls_of_block (args := #[.agg #[.int .i64 m0_0, .int .i64 m0_1, .int .i64 m0_2, .int .i64 m0_3, .int .i64 m0_4, .int .i64 m0_5, .int .i64 m0_6, .bool m0_7, .slice m0_8_b m0_8_l m0_8_c, .string m0_9]]) Tryz.func114 (body := (Tryz.f114.body.getD .skip)) (by kernel_rfl) (by kernel_rfl) (args_slot _) (api_MsgOK.B0_sound m0_0 m0_1 m0_2 m0_3 m0_4 m0_5 m0_6 m0_7 m0_8_b m0_8_l m0_8_c m0_9 w h)
  exact hc.mono fun e w' he => by
    obtain ⟨v, rfl, hv⟩ := he
    exact api_MsgOK.RV_elim hv
end Go.Proofs.Qxb6500433aGreat
