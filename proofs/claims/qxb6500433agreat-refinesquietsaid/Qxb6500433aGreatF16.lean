import Derived.Test.Qxb6500433aGreatSig
set_option maxRecDepth 100000
set_option linter.unusedVariables false
open Go.Vc
namespace Go.Proofs.Qxb6500433aGreat
def rlog_Log_rebase.L1b (l : Option Addr) (idx i : Int) (w : World)  (N1 : Option Addr → Int → Int → World → Prop) (R : Int → World → Prop) : Prop :=
  Bm (decide (i ≤ idx)) (
    rlog_slotOf.Call i w fun r48 w1 =>
    Pn l fun a =>
    LdP a w1 fun x52 =>
    store_Store_DelRec.Call x52 r48 w1 fun r54 w2 =>
    Bm (r54 != (0 : Int)) (
      R r54 w2) (
      N1 l idx (IntKind.i64.wrap (i + (1 : Int))) w2)) (
    R (0 : Int) w)
theorem rlog_Log_rebase.L1b_eq (l : Option Addr) (idx i : Int) (w : World)  (N1 : Option Addr → Int → Int → World → Prop) (R : Int → World → Prop)  :
    (
  Bm (decide (i ≤ idx)) (
    rlog_slotOf.Call i w fun r48 w1 =>
    Pn l fun a =>
    LdP a w1 fun x52 =>
    store_Store_DelRec.Call x52 r48 w1 fun r54 w2 =>
    Bm (r54 != (0 : Int)) (
      R r54 w2) (
      N1 l idx (IntKind.i64.wrap (i + (1 : Int))) w2)) (
    R (0 : Int) w)) = kstep Tryz.prog 58 Tryz.f176.results.toList (Tryz.f176.body.getD .skip) (rlog_Log_rebase.RV R) (kvc Tryz.prog 58 Tryz.f176.results.toList (Tryz.f176.body.getD .skip) (rlog_Log_rebase.RV R) [([(0, [1, 1, 1, 1, 1, 0, 1, 0, 0]), (2, [1, 1, 1, 1, 1, 0, 1, 0, 0]), (1, [0]), (0, [1, 1, 1, 1, 1, 1])], fun σ w => dP (slotOf σ 0) fun l_ => dI .i64 (slotOf σ 1) fun idx_ => dI .i64 (slotOf σ 11) fun i_ => N1 l_ idx_ i_ w)] 2000) [(0, [1, 1, 1, 1, 1, 0, 1, 0, 0]), (2, [1, 1, 1, 1, 1, 0, 1, 0, 0]), (1, [0]), (0, [1, 1, 1, 1, 1, 1])] [(0, .pointer l), (1, .int .i64 idx), (11, .int .i64 i)] w := by kernel_rfl
theorem rlog_Log_rebase.L1b_sound {R : Int → World → Prop} {N1 : Option Addr → Int → Int → World → Prop} (hN1 : ∀ l idx i w, N1 l idx i w → KW Tryz.prog 176 58 (rlog_Log_rebase.RV R) ([(0, [1, 1, 1, 1, 1, 0, 1, 0, 0]), (2, [1, 1, 1, 1, 1, 0, 1, 0, 0]), (1, [0]), (0, [1, 1, 1, 1, 1, 1])].map (toItem (Tryz.f176.body.getD .skip))) [(0, .pointer l), (1, .int .i64 idx), (11, .int .i64 i)] w) (l : Option Addr) (idx i : Int) (w : World) (h : rlog_Log_rebase.L1b l idx i w  N1 R) :
    KW Tryz.prog 176 58 (rlog_Log_rebase.RV R) ([(0, [1, 1, 1, 1, 1, 0, 1, 0, 0]), (2, [1, 1, 1, 1, 1, 0, 1, 0, 0]), (1, [0]), (0, [1, 1, 1, 1, 1, 1])].map (toItem (Tryz.f176.body.getD .skip))) [(0, .pointer l), (1, .int .i64 idx), (11, .int .i64 i)] w := by
  exact block_spec Tryz.func176 Tryz.mixed (stops_cons (fun σ w h => by
      obtain ⟨l_, e0, h⟩ := dP_elim h
      obtain ⟨idx_, e1, h⟩ := dI_elim h
      obtain ⟨i_, e2, h⟩ := dI_elim h
      exact (hN1 l_ idx_ i_ w h).weaken (Sub.cons (Sub.cons (Sub.cons (Sub.nil _) e2) e1) e0)) stops_nil) (Eq.mp (rlog_Log_rebase.L1b_eq l idx i w  N1 R ) h)
def rlog_Log_rebase.L1 (l : Option Addr) (idx i : Int) (w : World)  (R : Int → World → Prop) : Prop :=
  ∃ (I : Nat → Option Addr → Int → Int → World → Prop) (m : Nat), I m l idx i w ∧ ∀ m l idx i w, I m l idx i w → rlog_Log_rebase.L1b l idx i w  (fun l' idx' i' w' => ∃ m', m' < m ∧ I m' l' idx' i' w') R
theorem rlog_Log_rebase.L1_sound {R : Int → World → Prop}  (l : Option Addr) (idx i : Int) (w : World) (h : rlog_Log_rebase.L1 l idx i w  R) :
    KW Tryz.prog 176 58 (rlog_Log_rebase.RV R) ([(0, [1, 1, 1, 1, 1, 0, 1, 0, 0]), (2, [1, 1, 1, 1, 1, 0, 1, 0, 0]), (1, [0]), (0, [1, 1, 1, 1, 1, 1])].map (toItem (Tryz.f176.body.getD .skip))) [(0, .pointer l), (1, .int .i64 idx), (11, .int .i64 i)] w := by
  obtain ⟨I, m, hBase, hr⟩ := h
  refine KW.loop (fun m σ w => ∃ (l : Option Addr) (idx i : Int), σ = [(0, .pointer l), (1, .int .i64 idx), (11, .int .i64 i)] ∧ I m l idx i w) ?_ m _ w ⟨l, idx, i, rfl, hBase⟩
  rintro m ih σ w ⟨l, idx, i, rfl, hI⟩
  exact rlog_Log_rebase.L1b_sound  (N1 := fun l' idx' i' w' => ∃ m', m' < m ∧ I m' l' idx' i' w') (fun l' idx' i' w' hx => by obtain ⟨m', hlt, hI'⟩ := hx; exact ih m' hlt _ w' ⟨l', idx', i', rfl, hI'⟩) l idx i w (hr m l idx i w hI)
def rlog_Log_rebase.B0 (l : Option Addr) (idx term : Int) (snap : ByteArray) (w : World)   (R : Int → World → Prop) : Prop :=
  Pn l fun a =>
  LdP a w fun x16 =>
  store_Store_SetSnap.Call x16 idx term snap w fun r20 w1 =>
  Bm (r20 != (0 : Int)) (
    R r20 w1) (
    Pn l fun a_1 =>
    LdI .i64 (a_1.add 3) w1 fun x27 =>
    Pn l fun a_2 =>
    Sts [.int .i64 idx] (a_2.add 3) 0 w1 fun w2 =>
    Pn l fun a_3 =>
    Sts [.int .i64 term] (a_3.add 4) 0 w2 fun w3 =>
    Pn l fun a_4 =>
    Sts [.string snap] (a_4.add 5) 0 w3 fun w4 =>
    rlog_Log_rebase.L1 l idx (IntKind.i64.wrap (x27 + (1 : Int))) w4  R)
theorem rlog_Log_rebase.B0_eq (l : Option Addr) (idx term : Int) (snap : ByteArray) (w : World)   (R : Int → World → Prop) (sL1 : Option Addr → Int → Int → World → Prop) :
    (
  Pn l fun a =>
  LdP a w fun x16 =>
  store_Store_SetSnap.Call x16 idx term snap w fun r20 w1 =>
  Bm (r20 != (0 : Int)) (
    R r20 w1) (
    Pn l fun a_1 =>
    LdI .i64 (a_1.add 3) w1 fun x27 =>
    Pn l fun a_2 =>
    Sts [.int .i64 idx] (a_2.add 3) 0 w1 fun w2 =>
    Pn l fun a_3 =>
    Sts [.int .i64 term] (a_3.add 4) 0 w2 fun w3 =>
    Pn l fun a_4 =>
    Sts [.string snap] (a_4.add 5) 0 w3 fun w4 =>
    sL1 l idx (IntKind.i64.wrap (x27 + (1 : Int))) w4)) = kstep Tryz.prog 58 Tryz.f176.results.toList (Tryz.f176.body.getD .skip) (rlog_Log_rebase.RV R) (kvc Tryz.prog 58 Tryz.f176.results.toList (Tryz.f176.body.getD .skip) (rlog_Log_rebase.RV R) [([(0, [1, 1, 1, 1, 1, 0, 1, 0, 0]), (2, [1, 1, 1, 1, 1, 0, 1, 0, 0]), (1, [0]), (0, [1, 1, 1, 1, 1, 1])], fun σ w => dP (slotOf σ 0) fun l_ => dI .i64 (slotOf σ 1) fun idx_ => dI .i64 (slotOf σ 11) fun i_ => sL1 l_ idx_ i_ w)] 2000) [(0, [])] [(0, .pointer l), (1, .int .i64 idx), (2, .int .i64 term), (3, .string snap)] w := by kernel_rfl
theorem rlog_Log_rebase.B0_sound {R : Int → World → Prop}  (l : Option Addr) (idx term : Int) (snap : ByteArray) (w : World) (h : rlog_Log_rebase.B0 l idx term snap w   R) :
    KW Tryz.prog 176 58 (rlog_Log_rebase.RV R) ([(0, [])].map (toItem (Tryz.f176.body.getD .skip))) [(0, .pointer l), (1, .int .i64 idx), (2, .int .i64 term), (3, .string snap)] w := by
  exact block_spec Tryz.func176 Tryz.mixed (stops_cons (fun σ w h => by
      obtain ⟨l_, e0, h⟩ := dP_elim h
      obtain ⟨idx_, e1, h⟩ := dI_elim h
      obtain ⟨i_, e2, h⟩ := dI_elim h
      exact (rlog_Log_rebase.L1_sound  l_ idx_ i_ w h).weaken (Sub.cons (Sub.cons (Sub.cons (Sub.nil _) e2) e1) e0)) stops_nil) (Eq.mp (rlog_Log_rebase.B0_eq l idx term snap w   R (fun l_ idx_ i_ w => rlog_Log_rebase.L1 l_ idx_ i_ w  R)) h)
theorem rlog_Log_rebase.sound (l : Option Addr) (idx term : Int) (snap : ByteArray) (w : World) (R : Int → World → Prop) (h : rlog_Log_rebase.B0 l idx term snap w R) : rlog_Log_rebase.Call l idx term snap w R := by
  have hc := calls_of_block (args := #[.pointer l, .int .i64 idx, .int .i64 term, .string snap]) Tryz.func176 (body := (Tryz.f176.body.getD .skip)) (by kernel_rfl) (by kernel_rfl) (args_slot _) (rlog_Log_rebase.B0_sound l idx term snap w h)
  exact hc.mono fun e w' he => by
    obtain ⟨v, rfl, hv⟩ := he
    exact rlog_Log_rebase.RV_elim hv
def rlog_Log_dropFrom.L1b (l : Option Addr) (i : Int) (w : World)  (N1 : Option Addr → Int → World → Prop) (R : Int → World → Prop) : Prop :=
  Pn l fun a =>
  LdI .i64 (a.add 6) w fun x10 =>
  Bm (decide (x10 ≥ i)) (
    Pn l fun a_1 =>
    LdI .i64 (a_1.add 6) w fun x16 =>
    rlog_slotOf.Call x16 w fun r17 w1 =>
    Pn l fun a_2 =>
    LdP a_2 w1 fun x21 =>
    store_Store_DelRec.Call x21 r17 w1 fun r23 w2 =>
    Bm (r23 != (0 : Int)) (
      R r23 w2) (
      Pn l fun a_3 =>
      LdI .i64 (a_3.add 6) w2 fun x30 =>
      Pn l fun a_4 =>
      Sts [.int .i64 (IntKind.i64.wrap (x30 - (1 : Int)))] (a_4.add 6) 0 w2 fun w3 =>
      N1 l i w3)) (
    R (0 : Int) w)
theorem rlog_Log_dropFrom.L1b_eq (l : Option Addr) (i : Int) (w : World)  (N1 : Option Addr → Int → World → Prop) (R : Int → World → Prop)  :
    (
  Pn l fun a =>
  LdI .i64 (a.add 6) w fun x10 =>
  Bm (decide (x10 ≥ i)) (
    Pn l fun a_1 =>
    LdI .i64 (a_1.add 6) w fun x16 =>
    rlog_slotOf.Call x16 w fun r17 w1 =>
    Pn l fun a_2 =>
    LdP a_2 w1 fun x21 =>
    store_Store_DelRec.Call x21 r17 w1 fun r23 w2 =>
    Bm (r23 != (0 : Int)) (
      R r23 w2) (
      Pn l fun a_3 =>
      LdI .i64 (a_3.add 6) w2 fun x30 =>
      Pn l fun a_4 =>
      Sts [.int .i64 (IntKind.i64.wrap (x30 - (1 : Int)))] (a_4.add 6) 0 w2 fun w3 =>
      N1 l i w3)) (
    R (0 : Int) w)) = kstep Tryz.prog 34 Tryz.f177.results.toList (Tryz.f177.body.getD .skip) (rlog_Log_dropFrom.RV R) (kvc Tryz.prog 34 Tryz.f177.results.toList (Tryz.f177.body.getD .skip) (rlog_Log_dropFrom.RV R) [([(0, [1, 0, 0, 0]), (2, [1, 0, 0, 0]), (1, [0]), (0, [1, 1])], fun σ w => dP (slotOf σ 0) fun l_ => dI .i64 (slotOf σ 1) fun i_ => N1 l_ i_ w)] 2000) [(0, [1, 0, 0, 0]), (2, [1, 0, 0, 0]), (1, [0]), (0, [1, 1])] [(0, .pointer l), (1, .int .i64 i)] w := by kernel_rfl
theorem rlog_Log_dropFrom.L1b_sound {R : Int → World → Prop} {N1 : Option Addr → Int → World → Prop} (hN1 : ∀ l i w, N1 l i w → KW Tryz.prog 177 34 (rlog_Log_dropFrom.RV R) ([(0, [1, 0, 0, 0]), (2, [1, 0, 0, 0]), (1, [0]), (0, [1, 1])].map (toItem (Tryz.f177.body.getD .skip))) [(0, .pointer l), (1, .int .i64 i)] w) (l : Option Addr) (i : Int) (w : World) (h : rlog_Log_dropFrom.L1b l i w  N1 R) :
    KW Tryz.prog 177 34 (rlog_Log_dropFrom.RV R) ([(0, [1, 0, 0, 0]), (2, [1, 0, 0, 0]), (1, [0]), (0, [1, 1])].map (toItem (Tryz.f177.body.getD .skip))) [(0, .pointer l), (1, .int .i64 i)] w := by
  exact block_spec Tryz.func177 Tryz.mixed (stops_cons (fun σ w h => by
      obtain ⟨l_, e0, h⟩ := dP_elim h
      obtain ⟨i_, e1, h⟩ := dI_elim h
      exact (hN1 l_ i_ w h).weaken (Sub.cons (Sub.cons (Sub.nil _) e1) e0)) stops_nil) (Eq.mp (rlog_Log_dropFrom.L1b_eq l i w  N1 R ) h)
def rlog_Log_dropFrom.L1 (l : Option Addr) (i : Int) (w : World)  (R : Int → World → Prop) : Prop :=
  ∃ (I : Nat → Option Addr → Int → World → Prop) (m : Nat), I m l i w ∧ ∀ m l i w, I m l i w → rlog_Log_dropFrom.L1b l i w  (fun l' i' w' => ∃ m', m' < m ∧ I m' l' i' w') R
theorem rlog_Log_dropFrom.L1_sound {R : Int → World → Prop}  (l : Option Addr) (i : Int) (w : World) (h : rlog_Log_dropFrom.L1 l i w  R) :
    KW Tryz.prog 177 34 (rlog_Log_dropFrom.RV R) ([(0, [1, 0, 0, 0]), (2, [1, 0, 0, 0]), (1, [0]), (0, [1, 1])].map (toItem (Tryz.f177.body.getD .skip))) [(0, .pointer l), (1, .int .i64 i)] w := by
  obtain ⟨I, m, hBase, hr⟩ := h
  refine KW.loop (fun m σ w => ∃ (l : Option Addr) (i : Int), σ = [(0, .pointer l), (1, .int .i64 i)] ∧ I m l i w) ?_ m _ w ⟨l, i, rfl, hBase⟩
  rintro m ih σ w ⟨l, i, rfl, hI⟩
  exact rlog_Log_dropFrom.L1b_sound  (N1 := fun l' i' w' => ∃ m', m' < m ∧ I m' l' i' w') (fun l' i' w' hx => by obtain ⟨m', hlt, hI'⟩ := hx; exact ih m' hlt _ w' ⟨l', i', rfl, hI'⟩) l i w (hr m l i w hI)
def rlog_Log_dropFrom.B0 (l : Option Addr) (i : Int) (w : World)   (R : Int → World → Prop) : Prop :=
  rlog_Log_dropFrom.L1 l i w  R
theorem rlog_Log_dropFrom.B0_eq (l : Option Addr) (i : Int) (w : World)   (R : Int → World → Prop) (sL1 : Option Addr → Int → World → Prop) :
    (
  sL1 l i w) = kstep Tryz.prog 34 Tryz.f177.results.toList (Tryz.f177.body.getD .skip) (rlog_Log_dropFrom.RV R) (kvc Tryz.prog 34 Tryz.f177.results.toList (Tryz.f177.body.getD .skip) (rlog_Log_dropFrom.RV R) [([(0, [1, 0, 0, 0]), (2, [1, 0, 0, 0]), (1, [0]), (0, [1, 1])], fun σ w => dP (slotOf σ 0) fun l_ => dI .i64 (slotOf σ 1) fun i_ => sL1 l_ i_ w)] 2000) [(0, [])] [(0, .pointer l), (1, .int .i64 i)] w := by kernel_rfl
theorem rlog_Log_dropFrom.B0_sound {R : Int → World → Prop}  (l : Option Addr) (i : Int) (w : World) (h : rlog_Log_dropFrom.B0 l i w   R) :
    KW Tryz.prog 177 34 (rlog_Log_dropFrom.RV R) ([(0, [])].map (toItem (Tryz.f177.body.getD .skip))) [(0, .pointer l), (1, .int .i64 i)] w := by
  exact block_spec Tryz.func177 Tryz.mixed (stops_cons (fun σ w h => by
      obtain ⟨l_, e0, h⟩ := dP_elim h
      obtain ⟨i_, e1, h⟩ := dI_elim h
      exact (rlog_Log_dropFrom.L1_sound  l_ i_ w h).weaken (Sub.cons (Sub.cons (Sub.nil _) e1) e0)) stops_nil) (Eq.mp (rlog_Log_dropFrom.B0_eq l i w   R (fun l_ i_ w => rlog_Log_dropFrom.L1 l_ i_ w  R)) h)
theorem rlog_Log_dropFrom.sound (l : Option Addr) (i : Int) (w : World) (R : Int → World → Prop) (h : rlog_Log_dropFrom.B0 l i w R) : rlog_Log_dropFrom.Call l i w R := by
  have hc := calls_of_block (args := #[.pointer l, .int .i64 i]) Tryz.func177 (body := (Tryz.f177.body.getD .skip)) (by kernel_rfl) (by kernel_rfl) (args_slot _) (rlog_Log_dropFrom.B0_sound l i w h)
  exact hc.mono fun e w' he => by
    obtain ⟨v, rfl, hv⟩ := he
    exact rlog_Log_dropFrom.RV_elim hv
def store_Store_SetSnap.L1b (t : Option Addr) (idx term : Int) (data : ByteArray) (a k : Int) (w : World)  (N1 : Option Addr → Int → Int → ByteArray → Int → Int → World → Prop) (R : Int → World → Prop) : Prop :=
  Bm (decide ((IntKind.i64.wrap (k * (64 : Int))) < ((data.size : Nat) : Int))) (
    store_chunk.Call data k w fun r45 w1 =>
    Pn t fun a_1 =>
    LdP a_1 w1 fun x49 =>
    diskm_Disk_Write.Call x49 (IntKind.i64.wrap ((IntKind.i64.wrap ((4 : Int) + (IntKind.i64.wrap (a * (2 : Int))))) + k)) r45 w1 fun r56 w2 =>
    N1 t idx term data a (IntKind.i64.wrap (k + (1 : Int))) w2) (
    Pn t fun a_2 =>
    LdI .i64 ((a_2.add 20).add 1) w fun x62 =>
    Pn t fun a_3 =>
    Sts [.bool true, .int .i64 (IntKind.i64.wrap (x62 + (1 : Int))), .int .i64 idx, .int .i64 term, .int .i64 a, .int .i64 ((data.size : Nat) : Int)] (a_3.add 20) 0 w fun w3 =>
    Pn t fun a_4 =>
    LdI .i64 (a_4.add 26) w3 fun x76 =>
    Pn t fun a_5 =>
    Sts [.int .i64 (IntKind.i64.wrap ((1 : Int) - x76))] (a_5.add 26) 0 w3 fun w4 =>
    Pn t fun a_6 =>
    Sts [.string data] (a_6.add 27) 0 w4 fun w5 =>
    Pn t fun a_7 =>
    LdB (a_7.add 20) w5 fun x87_0 =>
    LdI .i64 ((a_7.add 20).add 1) w5 fun x87_1 =>
    LdI .i64 ((a_7.add 20).add 2) w5 fun x87_2 =>
    LdI .i64 ((a_7.add 20).add 3) w5 fun x87_3 =>
    LdI .i64 ((a_7.add 20).add 4) w5 fun x87_4 =>
    LdI .i64 ((a_7.add 20).add 5) w5 fun x87_5 =>
    store_encHead.Call x87_0 x87_1 x87_2 x87_3 x87_4 x87_5 w5 fun r88_b r88_l r88_c w6 =>
    Pn t fun a_8 =>
    LdI .i64 (a_8.add 26) w6 fun x93 =>
    store_Store_write.Call t (IntKind.i64.wrap ((2 : Int) + x93)) r88_b r88_l r88_c w6 fun w7 =>
    R (0 : Int) w7)
theorem store_Store_SetSnap.L1b_eq (t : Option Addr) (idx term : Int) (data : ByteArray) (a k : Int) (w : World)  (N1 : Option Addr → Int → Int → ByteArray → Int → Int → World → Prop) (R : Int → World → Prop)  :
    (
  Bm (decide ((IntKind.i64.wrap (k * (64 : Int))) < ((data.size : Nat) : Int))) (
    store_chunk.Call data k w fun r45 w1 =>
    Pn t fun a_1 =>
    LdP a_1 w1 fun x49 =>
    diskm_Disk_Write.Call x49 (IntKind.i64.wrap ((IntKind.i64.wrap ((4 : Int) + (IntKind.i64.wrap (a * (2 : Int))))) + k)) r45 w1 fun r56 w2 =>
    N1 t idx term data a (IntKind.i64.wrap (k + (1 : Int))) w2) (
    Pn t fun a_2 =>
    LdI .i64 ((a_2.add 20).add 1) w fun x62 =>
    Pn t fun a_3 =>
    Sts [.bool true, .int .i64 (IntKind.i64.wrap (x62 + (1 : Int))), .int .i64 idx, .int .i64 term, .int .i64 a, .int .i64 ((data.size : Nat) : Int)] (a_3.add 20) 0 w fun w3 =>
    Pn t fun a_4 =>
    LdI .i64 (a_4.add 26) w3 fun x76 =>
    Pn t fun a_5 =>
    Sts [.int .i64 (IntKind.i64.wrap ((1 : Int) - x76))] (a_5.add 26) 0 w3 fun w4 =>
    Pn t fun a_6 =>
    Sts [.string data] (a_6.add 27) 0 w4 fun w5 =>
    Pn t fun a_7 =>
    LdB (a_7.add 20) w5 fun x87_0 =>
    LdI .i64 ((a_7.add 20).add 1) w5 fun x87_1 =>
    LdI .i64 ((a_7.add 20).add 2) w5 fun x87_2 =>
    LdI .i64 ((a_7.add 20).add 3) w5 fun x87_3 =>
    LdI .i64 ((a_7.add 20).add 4) w5 fun x87_4 =>
    LdI .i64 ((a_7.add 20).add 5) w5 fun x87_5 =>
    store_encHead.Call x87_0 x87_1 x87_2 x87_3 x87_4 x87_5 w5 fun r88_b r88_l r88_c w6 =>
    Pn t fun a_8 =>
    LdI .i64 (a_8.add 26) w6 fun x93 =>
    store_Store_write.Call t (IntKind.i64.wrap ((2 : Int) + x93)) r88_b r88_l r88_c w6 fun w7 =>
    R (0 : Int) w7)) = kstep Tryz.prog 97 Tryz.f178.results.toList (Tryz.f178.body.getD .skip) (store_Store_SetSnap.RV R) (kvc Tryz.prog 97 Tryz.f178.results.toList (Tryz.f178.body.getD .skip) (store_Store_SetSnap.RV R) [([(0, [1, 1, 1, 1, 0, 1, 0, 0]), (2, [1, 1, 1, 1, 0, 1, 0, 0]), (1, [0]), (0, [1, 1, 1, 1, 1])], fun σ w => dP (slotOf σ 0) fun t_ => dI .i64 (slotOf σ 1) fun idx_ => dI .i64 (slotOf σ 2) fun term_ => dS (slotOf σ 3) fun data_ => dI .i64 (slotOf σ 9) fun a_ => dI .i64 (slotOf σ 10) fun k_ => N1 t_ idx_ term_ data_ a_ k_ w)] 2000) [(0, [1, 1, 1, 1, 0, 1, 0, 0]), (2, [1, 1, 1, 1, 0, 1, 0, 0]), (1, [0]), (0, [1, 1, 1, 1, 1])] [(0, .pointer t), (1, .int .i64 idx), (2, .int .i64 term), (3, .string data), (9, .int .i64 a), (10, .int .i64 k)] w := by kernel_rfl
theorem store_Store_SetSnap.L1b_sound {R : Int → World → Prop} {N1 : Option Addr → Int → Int → ByteArray → Int → Int → World → Prop} (hN1 : ∀ t idx term data a k w, N1 t idx term data a k w → KW Tryz.prog 178 97 (store_Store_SetSnap.RV R) ([(0, [1, 1, 1, 1, 0, 1, 0, 0]), (2, [1, 1, 1, 1, 0, 1, 0, 0]), (1, [0]), (0, [1, 1, 1, 1, 1])].map (toItem (Tryz.f178.body.getD .skip))) [(0, .pointer t), (1, .int .i64 idx), (2, .int .i64 term), (3, .string data), (9, .int .i64 a), (10, .int .i64 k)] w) (t : Option Addr) (idx term : Int) (data : ByteArray) (a k : Int) (w : World) (h : store_Store_SetSnap.L1b t idx term data a k w  N1 R) :
    KW Tryz.prog 178 97 (store_Store_SetSnap.RV R) ([(0, [1, 1, 1, 1, 0, 1, 0, 0]), (2, [1, 1, 1, 1, 0, 1, 0, 0]), (1, [0]), (0, [1, 1, 1, 1, 1])].map (toItem (Tryz.f178.body.getD .skip))) [(0, .pointer t), (1, .int .i64 idx), (2, .int .i64 term), (3, .string data), (9, .int .i64 a), (10, .int .i64 k)] w := by
  exact block_spec Tryz.func178 Tryz.mixed (stops_cons (fun σ w h => by
      obtain ⟨t_, e0, h⟩ := dP_elim h
      obtain ⟨idx_, e1, h⟩ := dI_elim h
      obtain ⟨term_, e2, h⟩ := dI_elim h
      obtain ⟨data_, e3, h⟩ := dS_elim h
      obtain ⟨a_, e4, h⟩ := dI_elim h
      obtain ⟨k_, e5, h⟩ := dI_elim h
      exact (hN1 t_ idx_ term_ data_ a_ k_ w h).weaken (Sub.cons (Sub.cons (Sub.cons (Sub.cons (Sub.cons (Sub.cons (Sub.nil _) e5) e4) e3) e2) e1) e0)) stops_nil) (Eq.mp (store_Store_SetSnap.L1b_eq t idx term data a k w  N1 R ) h)
def store_Store_SetSnap.L1 (t : Option Addr) (idx term : Int) (data : ByteArray) (a k : Int) (w : World)  (R : Int → World → Prop) : Prop :=
  ∃ (I : Nat → Option Addr → Int → Int → ByteArray → Int → Int → World → Prop) (m : Nat), I m t idx term data a k w ∧ ∀ m t idx term data a k w, I m t idx term data a k w → store_Store_SetSnap.L1b t idx term data a k w  (fun t' idx' term' data' a' k' w' => ∃ m', m' < m ∧ I m' t' idx' term' data' a' k' w') R
theorem store_Store_SetSnap.L1_sound {R : Int → World → Prop}  (t : Option Addr) (idx term : Int) (data : ByteArray) (a k : Int) (w : World) (h : store_Store_SetSnap.L1 t idx term data a k w  R) :
    KW Tryz.prog 178 97 (store_Store_SetSnap.RV R) ([(0, [1, 1, 1, 1, 0, 1, 0, 0]), (2, [1, 1, 1, 1, 0, 1, 0, 0]), (1, [0]), (0, [1, 1, 1, 1, 1])].map (toItem (Tryz.f178.body.getD .skip))) [(0, .pointer t), (1, .int .i64 idx), (2, .int .i64 term), (3, .string data), (9, .int .i64 a), (10, .int .i64 k)] w := by
  obtain ⟨I, m, hBase, hr⟩ := h
  refine KW.loop (fun m σ w => ∃ (t : Option Addr) (idx term : Int) (data : ByteArray) (a k : Int), σ = [(0, .pointer t), (1, .int .i64 idx), (2, .int .i64 term), (3, .string data), (9, .int .i64 a), (10, .int .i64 k)] ∧ I m t idx term data a k w) ?_ m _ w ⟨t, idx, term, data, a, k, rfl, hBase⟩
  rintro m ih σ w ⟨t, idx, term, data, a, k, rfl, hI⟩
  exact store_Store_SetSnap.L1b_sound  (N1 := fun t' idx' term' data' a' k' w' => ∃ m', m' < m ∧ I m' t' idx' term' data' a' k' w') (fun t' idx' term' data' a' k' w' hx => by obtain ⟨m', hlt, hI'⟩ := hx; exact ih m' hlt _ w' ⟨t', idx', term', data', a', k', rfl, hI'⟩) t idx term data a k w (hr m t idx term data a k w hI)
def store_Store_SetSnap.B1 (t : Option Addr) (idx term : Int) (data : ByteArray) (t26 : Bool) (w : World)   (R : Int → World → Prop) : Prop :=
  Bm t26 (
    R (1 : Int) w) (
    Bm (decide (((data.size : Nat) : Int) > (128 : Int))) (
      R (5 : Int) w) (
      Pn t fun a =>
      LdI .i64 ((a.add 20).add 4) w fun x34 =>
      store_Store_SetSnap.L1 t idx term data (IntKind.i64.wrap ((1 : Int) - x34)) (0 : Int) w  R))
theorem store_Store_SetSnap.B1_eq (t : Option Addr) (idx term : Int) (data : ByteArray) (t26 : Bool) (w : World)   (R : Int → World → Prop) (sL1 : Option Addr → Int → Int → ByteArray → Int → Int → World → Prop) :
    (
  Bm t26 (
    R (1 : Int) w) (
    Bm (decide (((data.size : Nat) : Int) > (128 : Int))) (
      R (5 : Int) w) (
      Pn t fun a =>
      LdI .i64 ((a.add 20).add 4) w fun x34 =>
      sL1 t idx term data (IntKind.i64.wrap ((1 : Int) - x34)) (0 : Int) w))) = kstep Tryz.prog 97 Tryz.f178.results.toList (Tryz.f178.body.getD .skip) (store_Store_SetSnap.RV R) (kvc Tryz.prog 97 Tryz.f178.results.toList (Tryz.f178.body.getD .skip) (store_Store_SetSnap.RV R) [([(0, [1, 1, 1, 1, 0, 1, 0, 0]), (2, [1, 1, 1, 1, 0, 1, 0, 0]), (1, [0]), (0, [1, 1, 1, 1, 1])], fun σ w => dP (slotOf σ 0) fun t_ => dI .i64 (slotOf σ 1) fun idx_ => dI .i64 (slotOf σ 2) fun term_ => dS (slotOf σ 3) fun data_ => dI .i64 (slotOf σ 9) fun a_ => dI .i64 (slotOf σ 10) fun k_ => sL1 t_ idx_ term_ data_ a_ k_ w)] 2000) [(0, [1, 0, 1]), (0, [1, 1])] [(0, .pointer t), (1, .int .i64 idx), (2, .int .i64 term), (3, .string data), (26, .bool t26)] w := by kernel_rfl
theorem store_Store_SetSnap.B1_sound {R : Int → World → Prop}  (t : Option Addr) (idx term : Int) (data : ByteArray) (t26 : Bool) (w : World) (h : store_Store_SetSnap.B1 t idx term data t26 w   R) :
    KW Tryz.prog 178 97 (store_Store_SetSnap.RV R) ([(0, [1, 0, 1]), (0, [1, 1])].map (toItem (Tryz.f178.body.getD .skip))) [(0, .pointer t), (1, .int .i64 idx), (2, .int .i64 term), (3, .string data), (26, .bool t26)] w := by
  exact block_spec Tryz.func178 Tryz.mixed (stops_cons (fun σ w h => by
      obtain ⟨t_, e0, h⟩ := dP_elim h
      obtain ⟨idx_, e1, h⟩ := dI_elim h
      obtain ⟨term_, e2, h⟩ := dI_elim h
      obtain ⟨data_, e3, h⟩ := dS_elim h
      obtain ⟨a_, e4, h⟩ := dI_elim h
      obtain ⟨k_, e5, h⟩ := dI_elim h
      exact (store_Store_SetSnap.L1_sound  t_ idx_ term_ data_ a_ k_ w h).weaken (Sub.cons (Sub.cons (Sub.cons (Sub.cons (Sub.cons (Sub.cons (Sub.nil _) e5) e4) e3) e2) e1) e0)) stops_nil) (Eq.mp (store_Store_SetSnap.B1_eq t idx term data t26 w   R (fun t_ idx_ term_ data_ a_ k_ w => store_Store_SetSnap.L1 t_ idx_ term_ data_ a_ k_ w  R)) h)
def store_Store_SetSnap.B0 (t : Option Addr) (idx term : Int) (data : ByteArray) (w : World)   (R : Int → World → Prop) : Prop :=
  Bm (decide (idx < (0 : Int))) (
    store_Store_SetSnap.B1 t idx term data true w  R) (
    Bm (decide (idx > (72057594037927936 : Int))) (
      store_Store_SetSnap.B1 t idx term data true w  R) (
      Bm (decide (term < (0 : Int))) (
        store_Store_SetSnap.B1 t idx term data true w  R) (
        store_Store_SetSnap.B1 t idx term data (decide (term > (72057594037927936 : Int))) w  R)))
theorem store_Store_SetSnap.B0_eq (t : Option Addr) (idx term : Int) (data : ByteArray) (w : World)   (R : Int → World → Prop) (sB1 : Option Addr → Int → Int → ByteArray → Bool → World → Prop) :
    (
  Bm (decide (idx < (0 : Int))) (
    sB1 t idx term data true w) (
    Bm (decide (idx > (72057594037927936 : Int))) (
      sB1 t idx term data true w) (
      Bm (decide (term < (0 : Int))) (
        sB1 t idx term data true w) (
        sB1 t idx term data (decide (term > (72057594037927936 : Int))) w)))) = kstep Tryz.prog 97 Tryz.f178.results.toList (Tryz.f178.body.getD .skip) (store_Store_SetSnap.RV R) (kvc Tryz.prog 97 Tryz.f178.results.toList (Tryz.f178.body.getD .skip) (store_Store_SetSnap.RV R) [([(0, [1, 0, 1]), (0, [1, 1])], fun σ w => dP (slotOf σ 0) fun t_ => dI .i64 (slotOf σ 1) fun idx_ => dI .i64 (slotOf σ 2) fun term_ => dS (slotOf σ 3) fun data_ => dB (slotOf σ 26) fun t26_ => sB1 t_ idx_ term_ data_ t26_ w)] 2000) [(0, [])] [(0, .pointer t), (1, .int .i64 idx), (2, .int .i64 term), (3, .string data)] w := by kernel_rfl
theorem store_Store_SetSnap.B0_sound {R : Int → World → Prop}  (t : Option Addr) (idx term : Int) (data : ByteArray) (w : World) (h : store_Store_SetSnap.B0 t idx term data w   R) :
    KW Tryz.prog 178 97 (store_Store_SetSnap.RV R) ([(0, [])].map (toItem (Tryz.f178.body.getD .skip))) [(0, .pointer t), (1, .int .i64 idx), (2, .int .i64 term), (3, .string data)] w := by
  exact block_spec Tryz.func178 Tryz.mixed (stops_cons (fun σ w h => by
      obtain ⟨t_, e0, h⟩ := dP_elim h
      obtain ⟨idx_, e1, h⟩ := dI_elim h
      obtain ⟨term_, e2, h⟩ := dI_elim h
      obtain ⟨data_, e3, h⟩ := dS_elim h
      obtain ⟨t26_, e4, h⟩ := dB_elim h
      exact (store_Store_SetSnap.B1_sound  t_ idx_ term_ data_ t26_ w h).weaken (Sub.cons (Sub.cons (Sub.cons (Sub.cons (Sub.cons (Sub.nil _) e4) e3) e2) e1) e0)) stops_nil) (Eq.mp (store_Store_SetSnap.B0_eq t idx term data w   R (fun t_ idx_ term_ data_ t26_ w => store_Store_SetSnap.B1 t_ idx_ term_ data_ t26_ w  R)) h)
theorem store_Store_SetSnap.sound (t : Option Addr) (idx term : Int) (data : ByteArray) (w : World) (R : Int → World → Prop) (h : store_Store_SetSnap.B0 t idx term data w R) : store_Store_SetSnap.Call t idx term data w R := by
  have hc := calls_of_block (args := #[.pointer t, .int .i64 idx, .int .i64 term, .string data]) Tryz.func178 (body := (Tryz.f178.body.getD .skip)) (by kernel_rfl) (by kernel_rfl) (args_slot _) (store_Store_SetSnap.B0_sound t idx term data w h)
  exact hc.mono fun e w' he => by
    obtain ⟨v, rfl, hv⟩ := he
    exact store_Store_SetSnap.RV_elim hv
def sync_Sync_advance.L1b (s : Option Addr) (term n : Int) (w : World)  (N1 : Option Addr → Int → Int → World → Prop) (R : World → Prop) : Prop :=
  Pn s fun a =>
  LdI .i64 (a.add 2) w fun x38 =>
  Bm (decide (n > x38)) (
    Pn s fun a_1 =>
    LdP a_1 w fun x46 =>
    rlog_Log_TermAt.Call x46 n w fun r48_0 r48_1 w1 =>
    Bm (r48_0 == term) (
      Pn s fun a_2 =>
      Sts [.int .i64 n] (a_2.add 2) 0 w1 fun w2 =>
      R  w2) (
      N1 s term (IntKind.i64.wrap (n - (1 : Int))) w1)) (
    R  w)
theorem sync_Sync_advance.L1b_eq (s : Option Addr) (term n : Int) (w : World)  (N1 : Option Addr → Int → Int → World → Prop) (R : World → Prop)  :
    (
  Pn s fun a =>
  LdI .i64 (a.add 2) w fun x38 =>
  Bm (decide (n > x38)) (
    Pn s fun a_1 =>
    LdP a_1 w fun x46 =>
    rlog_Log_TermAt.Call x46 n w fun r48_0 r48_1 w1 =>
    Bm (r48_0 == term) (
      Pn s fun a_2 =>
      Sts [.int .i64 n] (a_2.add 2) 0 w1 fun w2 =>
      R  w2) (
      N1 s term (IntKind.i64.wrap (n - (1 : Int))) w1)) (
    R  w)) = kstep Tryz.prog 58 Tryz.f179.results.toList (Tryz.f179.body.getD .skip) (sync_Sync_advance.RV R) (kvc Tryz.prog 58 Tryz.f179.results.toList (Tryz.f179.body.getD .skip) (sync_Sync_advance.RV R) [([(0, [1, 1, 1, 1, 1, 1, 1, 0, 0]), (2, [1, 1, 1, 1, 1, 1, 1, 0, 0]), (1, [0])], fun σ w => dP (slotOf σ 0) fun s_ => dI .i64 (slotOf σ 3) fun term_ => dI .i64 (slotOf σ 6) fun n_ => N1 s_ term_ n_ w)] 2000) [(0, [1, 1, 1, 1, 1, 1, 1, 0, 0]), (2, [1, 1, 1, 1, 1, 1, 1, 0, 0]), (1, [0])] [(0, .pointer s), (3, .int .i64 term), (6, .int .i64 n)] w := by kernel_rfl
theorem sync_Sync_advance.L1b_sound {R : World → Prop} {N1 : Option Addr → Int → Int → World → Prop} (hN1 : ∀ s term n w, N1 s term n w → KW Tryz.prog 179 58 (sync_Sync_advance.RV R) ([(0, [1, 1, 1, 1, 1, 1, 1, 0, 0]), (2, [1, 1, 1, 1, 1, 1, 1, 0, 0]), (1, [0])].map (toItem (Tryz.f179.body.getD .skip))) [(0, .pointer s), (3, .int .i64 term), (6, .int .i64 n)] w) (s : Option Addr) (term n : Int) (w : World) (h : sync_Sync_advance.L1b s term n w  N1 R) :
    KW Tryz.prog 179 58 (sync_Sync_advance.RV R) ([(0, [1, 1, 1, 1, 1, 1, 1, 0, 0]), (2, [1, 1, 1, 1, 1, 1, 1, 0, 0]), (1, [0])].map (toItem (Tryz.f179.body.getD .skip))) [(0, .pointer s), (3, .int .i64 term), (6, .int .i64 n)] w := by
  exact block_spec Tryz.func179 Tryz.mixed (stops_cons (fun σ w h => by
      obtain ⟨s_, e0, h⟩ := dP_elim h
      obtain ⟨term_, e1, h⟩ := dI_elim h
      obtain ⟨n_, e2, h⟩ := dI_elim h
      exact (hN1 s_ term_ n_ w h).weaken (Sub.cons (Sub.cons (Sub.cons (Sub.nil _) e2) e1) e0)) stops_nil) (Eq.mp (sync_Sync_advance.L1b_eq s term n w  N1 R ) h)
def sync_Sync_advance.L1 (s : Option Addr) (term n : Int) (w : World)  (R : World → Prop) : Prop :=
  ∃ (I : Nat → Option Addr → Int → Int → World → Prop) (m : Nat), I m s term n w ∧ ∀ m s term n w, I m s term n w → sync_Sync_advance.L1b s term n w  (fun s' term' n' w' => ∃ m', m' < m ∧ I m' s' term' n' w') R
theorem sync_Sync_advance.L1_sound {R : World → Prop}  (s : Option Addr) (term n : Int) (w : World) (h : sync_Sync_advance.L1 s term n w  R) :
    KW Tryz.prog 179 58 (sync_Sync_advance.RV R) ([(0, [1, 1, 1, 1, 1, 1, 1, 0, 0]), (2, [1, 1, 1, 1, 1, 1, 1, 0, 0]), (1, [0])].map (toItem (Tryz.f179.body.getD .skip))) [(0, .pointer s), (3, .int .i64 term), (6, .int .i64 n)] w := by
  obtain ⟨I, m, hBase, hr⟩ := h
  refine KW.loop (fun m σ w => ∃ (s : Option Addr) (term n : Int), σ = [(0, .pointer s), (3, .int .i64 term), (6, .int .i64 n)] ∧ I m s term n w) ?_ m _ w ⟨s, term, n, rfl, hBase⟩
  rintro m ih σ w ⟨s, term, n, rfl, hI⟩
  exact sync_Sync_advance.L1b_sound  (N1 := fun s' term' n' w' => ∃ m', m' < m ∧ I m' s' term' n' w') (fun s' term' n' w' hx => by obtain ⟨m', hlt, hI'⟩ := hx; exact ih m' hlt _ w' ⟨s', term', n', rfl, hI'⟩) s term n w (hr m s term n w hI)
def sync_Sync_advance.B0 (s : Option Addr) (w : World)   (R : World → Prop) : Prop :=
  Pn s fun a =>
  LdP (a.add 1) w fun x12 =>
  elect_Elect_Id.Call x12 w fun r13 w1 =>
  Pn s fun a_1 =>
  LdP (a_1.add 1) w1 fun x17 =>
  elect_Elect_Term.Call x17 w1 fun r18 w2 =>
  Pn s fun a_2 =>
  LdI .i64 (a_2.add 6) w2 fun x22_0 =>
  LdI .i64 ((a_2.add 6).add 1) w2 fun x22_1 =>
  LdI .i64 ((a_2.add 6).add 2) w2 fun x22_2 =>
  New (.cells #[.int .i64 (0 : Int), .int .i64 (0 : Int), .int .i64 (0 : Int)] 80) w2 fun held_ w3 =>
  Sts [.int .i64 x22_0, .int .i64 x22_1, .int .i64 x22_2] ⟨held_, 0, none⟩ 0 w3 fun w4 =>
  Pn s fun a_3 =>
  LdI .i64 (a_3.add 9) w4 fun x27 =>
  (0 ≤ r13 ∧ r13 < ((3 : Nat) : Int)) ∧
  Sts [.int .i64 x27] (Addr.add ⟨held_, 0, none⟩ (r13.toNat * 1)) 0 w4 fun w5 =>
  LdI .i64 ⟨held_, 0, none⟩ w5 fun x29_0 =>
  LdI .i64 ⟨held_, 1, none⟩ w5 fun x29_1 =>
  LdI .i64 ⟨held_, 2, none⟩ w5 fun x29_2 =>
  sync_sorted.Call x29_0 x29_1 x29_2 w5 fun r30_0 r30_1 r30_2 w6 =>
  Sts [.int .i64 r30_0, .int .i64 r30_1, .int .i64 r30_2] ⟨held_, 0, none⟩ 0 w6 fun w7 =>
  (0 ≤ (1 : Int) ∧ (1 : Int) < ((3 : Nat) : Int)) ∧
  LdI .i64 ⟨held_, 1, none⟩ w7 fun x32 =>
  sync_Sync_advance.L1 s r18 x32 w7  R
theorem sync_Sync_advance.B0_eq (s : Option Addr) (w : World)   (R : World → Prop) (sL1 : Option Addr → Int → Int → World → Prop) :
    (
  Pn s fun a =>
  LdP (a.add 1) w fun x12 =>
  elect_Elect_Id.Call x12 w fun r13 w1 =>
  Pn s fun a_1 =>
  LdP (a_1.add 1) w1 fun x17 =>
  elect_Elect_Term.Call x17 w1 fun r18 w2 =>
  Pn s fun a_2 =>
  LdI .i64 (a_2.add 6) w2 fun x22_0 =>
  LdI .i64 ((a_2.add 6).add 1) w2 fun x22_1 =>
  LdI .i64 ((a_2.add 6).add 2) w2 fun x22_2 =>
  New (.cells #[.int .i64 (0 : Int), .int .i64 (0 : Int), .int .i64 (0 : Int)] 80) w2 fun held_ w3 =>
  Sts [.int .i64 x22_0, .int .i64 x22_1, .int .i64 x22_2] ⟨held_, 0, none⟩ 0 w3 fun w4 =>
  Pn s fun a_3 =>
  LdI .i64 (a_3.add 9) w4 fun x27 =>
  (0 ≤ r13 ∧ r13 < ((3 : Nat) : Int)) ∧
  Sts [.int .i64 x27] (Addr.add ⟨held_, 0, none⟩ (r13.toNat * 1)) 0 w4 fun w5 =>
  LdI .i64 ⟨held_, 0, none⟩ w5 fun x29_0 =>
  LdI .i64 ⟨held_, 1, none⟩ w5 fun x29_1 =>
  LdI .i64 ⟨held_, 2, none⟩ w5 fun x29_2 =>
  sync_sorted.Call x29_0 x29_1 x29_2 w5 fun r30_0 r30_1 r30_2 w6 =>
  Sts [.int .i64 r30_0, .int .i64 r30_1, .int .i64 r30_2] ⟨held_, 0, none⟩ 0 w6 fun w7 =>
  (0 ≤ (1 : Int) ∧ (1 : Int) < ((3 : Nat) : Int)) ∧
  LdI .i64 ⟨held_, 1, none⟩ w7 fun x32 =>
  sL1 s r18 x32 w7) = kstep Tryz.prog 58 Tryz.f179.results.toList (Tryz.f179.body.getD .skip) (sync_Sync_advance.RV R) (kvc Tryz.prog 58 Tryz.f179.results.toList (Tryz.f179.body.getD .skip) (sync_Sync_advance.RV R) [([(0, [1, 1, 1, 1, 1, 1, 1, 0, 0]), (2, [1, 1, 1, 1, 1, 1, 1, 0, 0]), (1, [0])], fun σ w => dP (slotOf σ 0) fun s_ => dI .i64 (slotOf σ 3) fun term_ => dI .i64 (slotOf σ 6) fun n_ => sL1 s_ term_ n_ w)] 2000) [(0, [])] [(0, .pointer s)] w := by kernel_rfl
theorem sync_Sync_advance.B0_sound {R : World → Prop}  (s : Option Addr) (w : World) (h : sync_Sync_advance.B0 s w   R) :
    KW Tryz.prog 179 58 (sync_Sync_advance.RV R) ([(0, [])].map (toItem (Tryz.f179.body.getD .skip))) [(0, .pointer s)] w := by
  exact block_spec Tryz.func179 Tryz.mixed (stops_cons (fun σ w h => by
      obtain ⟨s_, e0, h⟩ := dP_elim h
      obtain ⟨term_, e1, h⟩ := dI_elim h
      obtain ⟨n_, e2, h⟩ := dI_elim h
      exact (sync_Sync_advance.L1_sound  s_ term_ n_ w h).weaken (Sub.cons (Sub.cons (Sub.cons (Sub.nil _) e2) e1) e0)) stops_nil) (Eq.mp (sync_Sync_advance.B0_eq s w   R (fun s_ term_ n_ w => sync_Sync_advance.L1 s_ term_ n_ w  R)) h)
theorem sync_Sync_advance.sound (s : Option Addr) (w : World) (R : World → Prop) (h : sync_Sync_advance.B0 s w R) : sync_Sync_advance.Call s w R := by
  have hc := calls_of_block (args := #[.pointer s]) Tryz.func179 (body := (Tryz.f179.body.getD .skip)) (by kernel_rfl) (by kernel_rfl) (args_slot _) (sync_Sync_advance.B0_sound s w h)
  exact hc.mono fun e w' he => by
    obtain ⟨v, rfl, hv⟩ := he
    exact sync_Sync_advance.RV_elim hv
def store_next.B0 (old : Int) (w : World)   (R : Int → World → Prop) : Prop :=
  (255 : Int) ≠ 0 ∧
  R (IntKind.u8.wrap (IntKind.i64.wrap (((IntKind.i64.wrap old).tmod (255 : Int)) + (1 : Int)))) w
theorem store_next.B0_eq (old : Int) (w : World)   (R : Int → World → Prop)  :
    (
  (255 : Int) ≠ 0 ∧
  R (IntKind.u8.wrap (IntKind.i64.wrap (((IntKind.i64.wrap old).tmod (255 : Int)) + (1 : Int)))) w) = kstep Tryz.prog 8 Tryz.f180.results.toList (Tryz.f180.body.getD .skip) (store_next.RV R) (kvc Tryz.prog 8 Tryz.f180.results.toList (Tryz.f180.body.getD .skip) (store_next.RV R) [] 2000) [(0, [])] [(0, .int .u8 old)] w := by kernel_rfl
theorem store_next.B0_sound {R : Int → World → Prop}  (old : Int) (w : World) (h : store_next.B0 old w   R) :
    KW Tryz.prog 180 8 (store_next.RV R) ([(0, [])].map (toItem (Tryz.f180.body.getD .skip))) [(0, .int .u8 old)] w := by
  exact block_spec Tryz.func180 Tryz.mixed stops_nil (Eq.mp (store_next.B0_eq old w   R ) h)
theorem store_next.sound (old : Int) (w : World) (R : Int → World → Prop) (h : store_next.B0 old w R) : store_next.Call old w R := by
  have hc := calls_of_block (args := #[.int .u8 old]) Tryz.func180 (body := (Tryz.f180.body.getD .skip)) (by kernel_rfl) (by kernel_rfl) (args_slot _) (store_next.B0_sound old w h)
  exact hc.mono fun e w' he => by
    obtain ⟨v, rfl, hv⟩ := he
    exact store_next.RV_elim hv
def diskm_Disk_Write.B1 (d : Option Addr) (b : Int) (x : ByteArray) (t17 : Bool) (w : World)   (R : Int → World → Prop) : Prop :=
  Bm t17 (
    R (1 : Int) w) (
    Pn d fun a =>
    LdL a w fun x21_b x21_l x21_c =>
    Pn x21_b fun a_1 =>
    (0 ≤ b ∧ b < ((x21_l : Nat) : Int)) ∧
    Sts [.string x] (Addr.add a_1 (b.toNat * 1)) 0 w fun w1 =>
    Pn d fun a_2 =>
    LdL (a_2.add 2) w1.drew fun x29_b x29_l x29_c =>
    (0 ≤ (32 : Int) ∧ (32 : Int) ≤ ((x.size : Nat) : Int)) ∧
    New (.cells #[.int .i64 b, .int .i64 (0 : Int), .string (x.extract ((0 : Nat) : Int).toNat (32 : Int).toNat)] 151) w1.drew fun b34 w2 =>
    w2.cell? (a_2.add 2) = some (.slice x29_b x29_l x29_c) ∧
    Append 151 (.agg #[.int .i64 (0 : Int), .int .i64 (0 : Int), .string (ByteArray.mk #[])]) 3 32 x29_b x29_l x29_c (some ⟨b34, 0, none⟩) 1 w2 fun b35 c35 w3 =>
    Pn d fun a_3 =>
    Sts [.slice b35 (x29_l + 1) c35] (a_3.add 2) 0 w3 fun w4 =>
    Pn d fun a_4 =>
    LdL (a_4.add 2) w4.drew fun x42_b x42_l x42_c =>
    (0 ≤ (32 : Int) ∧ (32 : Int) ≤ ((x.size : Nat) : Int)) ∧
    New (.cells #[.int .i64 b, .int .i64 (1 : Int), .string (x.extract (32 : Int).toNat ((x.size : Nat) : Int).toNat)] 151) w4.drew fun b47 w5 =>
    w5.cell? (a_4.add 2) = some (.slice x42_b x42_l x42_c) ∧
    Append 151 (.agg #[.int .i64 (0 : Int), .int .i64 (0 : Int), .string (ByteArray.mk #[])]) 3 32 x42_b x42_l x42_c (some ⟨b47, 0, none⟩) 1 w5 fun b48 c48 w6 =>
    Pn d fun a_5 =>
    Sts [.slice b48 (x42_l + 1) c48] (a_5.add 2) 0 w6 fun w7 =>
    R (0 : Int) w7)
theorem diskm_Disk_Write.B1_eq (d : Option Addr) (b : Int) (x : ByteArray) (t17 : Bool) (w : World)   (R : Int → World → Prop)  :
    (
  Bm t17 (
    R (1 : Int) w) (
    Pn d fun a =>
    LdL a w fun x21_b x21_l x21_c =>
    Pn x21_b fun a_1 =>
    (0 ≤ b ∧ b < ((x21_l : Nat) : Int)) ∧
    Sts [.string x] (Addr.add a_1 (b.toNat * 1)) 0 w fun w1 =>
    Pn d fun a_2 =>
    LdL (a_2.add 2) w1.drew fun x29_b x29_l x29_c =>
    (0 ≤ (32 : Int) ∧ (32 : Int) ≤ ((x.size : Nat) : Int)) ∧
    New (.cells #[.int .i64 b, .int .i64 (0 : Int), .string (x.extract ((0 : Nat) : Int).toNat (32 : Int).toNat)] 151) w1.drew fun b34 w2 =>
    w2.cell? (a_2.add 2) = some (.slice x29_b x29_l x29_c) ∧
    Append 151 (.agg #[.int .i64 (0 : Int), .int .i64 (0 : Int), .string (ByteArray.mk #[])]) 3 32 x29_b x29_l x29_c (some ⟨b34, 0, none⟩) 1 w2 fun b35 c35 w3 =>
    Pn d fun a_3 =>
    Sts [.slice b35 (x29_l + 1) c35] (a_3.add 2) 0 w3 fun w4 =>
    Pn d fun a_4 =>
    LdL (a_4.add 2) w4.drew fun x42_b x42_l x42_c =>
    (0 ≤ (32 : Int) ∧ (32 : Int) ≤ ((x.size : Nat) : Int)) ∧
    New (.cells #[.int .i64 b, .int .i64 (1 : Int), .string (x.extract (32 : Int).toNat ((x.size : Nat) : Int).toNat)] 151) w4.drew fun b47 w5 =>
    w5.cell? (a_4.add 2) = some (.slice x42_b x42_l x42_c) ∧
    Append 151 (.agg #[.int .i64 (0 : Int), .int .i64 (0 : Int), .string (ByteArray.mk #[])]) 3 32 x42_b x42_l x42_c (some ⟨b47, 0, none⟩) 1 w5 fun b48 c48 w6 =>
    Pn d fun a_5 =>
    Sts [.slice b48 (x42_l + 1) c48] (a_5.add 2) 0 w6 fun w7 =>
    R (0 : Int) w7)) = kstep Tryz.prog 51 Tryz.f181.results.toList (Tryz.f181.body.getD .skip) (diskm_Disk_Write.RV R) (kvc Tryz.prog 51 Tryz.f181.results.toList (Tryz.f181.body.getD .skip) (diskm_Disk_Write.RV R) [] 2000) [(0, [1, 0, 1]), (0, [1, 1])] [(0, .pointer d), (1, .int .i64 b), (2, .string x), (17, .bool t17)] w := by kernel_rfl
theorem diskm_Disk_Write.B1_sound {R : Int → World → Prop}  (d : Option Addr) (b : Int) (x : ByteArray) (t17 : Bool) (w : World) (h : diskm_Disk_Write.B1 d b x t17 w   R) :
    KW Tryz.prog 181 51 (diskm_Disk_Write.RV R) ([(0, [1, 0, 1]), (0, [1, 1])].map (toItem (Tryz.f181.body.getD .skip))) [(0, .pointer d), (1, .int .i64 b), (2, .string x), (17, .bool t17)] w := by
  exact block_spec Tryz.func181 Tryz.mixed stops_nil (Eq.mp (diskm_Disk_Write.B1_eq d b x t17 w   R ) h)
def diskm_Disk_Write.B0 (d : Option Addr) (b : Int) (x : ByteArray) (w : World)   (R : Int → World → Prop) : Prop :=
  Bm (decide (b < (0 : Int))) (
    diskm_Disk_Write.B1 d b x true w  R) (
    Bm (decide (b ≥ (14 : Int))) (
      diskm_Disk_Write.B1 d b x true w  R) (
      diskm_Disk_Write.B1 d b x (((x.size : Nat) : Int) != (64 : Int)) w  R))
theorem diskm_Disk_Write.B0_eq (d : Option Addr) (b : Int) (x : ByteArray) (w : World)   (R : Int → World → Prop) (sB1 : Option Addr → Int → ByteArray → Bool → World → Prop) :
    (
  Bm (decide (b < (0 : Int))) (
    sB1 d b x true w) (
    Bm (decide (b ≥ (14 : Int))) (
      sB1 d b x true w) (
      sB1 d b x (((x.size : Nat) : Int) != (64 : Int)) w))) = kstep Tryz.prog 51 Tryz.f181.results.toList (Tryz.f181.body.getD .skip) (diskm_Disk_Write.RV R) (kvc Tryz.prog 51 Tryz.f181.results.toList (Tryz.f181.body.getD .skip) (diskm_Disk_Write.RV R) [([(0, [1, 0, 1]), (0, [1, 1])], fun σ w => dP (slotOf σ 0) fun d_ => dI .i64 (slotOf σ 1) fun b_ => dS (slotOf σ 2) fun x_ => dB (slotOf σ 17) fun t17_ => sB1 d_ b_ x_ t17_ w)] 2000) [(0, [])] [(0, .pointer d), (1, .int .i64 b), (2, .string x)] w := by kernel_rfl
theorem diskm_Disk_Write.B0_sound {R : Int → World → Prop}  (d : Option Addr) (b : Int) (x : ByteArray) (w : World) (h : diskm_Disk_Write.B0 d b x w   R) :
    KW Tryz.prog 181 51 (diskm_Disk_Write.RV R) ([(0, [])].map (toItem (Tryz.f181.body.getD .skip))) [(0, .pointer d), (1, .int .i64 b), (2, .string x)] w := by
  exact block_spec Tryz.func181 Tryz.mixed (stops_cons (fun σ w h => by
      obtain ⟨d_, e0, h⟩ := dP_elim h
      obtain ⟨b_, e1, h⟩ := dI_elim h
      obtain ⟨x_, e2, h⟩ := dS_elim h
      obtain ⟨t17_, e3, h⟩ := dB_elim h
      exact (diskm_Disk_Write.B1_sound  d_ b_ x_ t17_ w h).weaken (Sub.cons (Sub.cons (Sub.cons (Sub.cons (Sub.nil _) e3) e2) e1) e0)) stops_nil) (Eq.mp (diskm_Disk_Write.B0_eq d b x w   R (fun d_ b_ x_ t17_ w => diskm_Disk_Write.B1 d_ b_ x_ t17_ w  R)) h)
theorem diskm_Disk_Write.sound (d : Option Addr) (b : Int) (x : ByteArray) (w : World) (R : Int → World → Prop) (h : diskm_Disk_Write.B0 d b x w R) : diskm_Disk_Write.Call d b x w R := by
  have hc := calls_of_block (args := #[.pointer d, .int .i64 b, .string x]) Tryz.func181 (body := (Tryz.f181.body.getD .skip)) (by kernel_rfl) (by kernel_rfl) (args_slot _) (diskm_Disk_Write.B0_sound d b x w h)
  exact hc.mono fun e w' he => by
    obtain ⟨v, rfl, hv⟩ := he
    exact diskm_Disk_Write.RV_elim hv
def store_encMeta.B0 (m0_0 : Bool) (m0_1 m0_2 m0_3 : Int) (w : World)   (R : Option Addr → Nat → Nat → World → Prop) : Prop :=
  New (.cells #[.bool m0_0, .int .i64 m0_1, .int .i64 m0_2, .int .i64 m0_3] 115) w fun m0_ w1 =>
  Make 5 (.int .u8 (0 : Int)) 1 1 (64 : Int) (64 : Int) w1 fun b4 w2 =>
  LdI .i64 ⟨m0_, 1, none⟩ w2 fun x7 =>
  store_put8.Call (some ⟨b4, 0, none⟩) 64 64 (1 : Int) x7 w2 fun r8_b r8_l r8_c w3 =>
  LdI .i64 ⟨m0_, 2, none⟩ w3 fun x11 =>
  store_put8.Call r8_b r8_l r8_c (9 : Int) x11 w3 fun r12_b r12_l r12_c w4 =>
  LdI .i64 ⟨m0_, 3, none⟩ w4 fun x15 =>
  Pn r12_b fun a =>
  (0 ≤ (32 : Int) ∧ (32 : Int) < ((r12_l : Nat) : Int)) ∧
  Sts [.int .u8 (IntKind.u8.wrap (IntKind.i64.wrap (x15 + (1 : Int))))] (a.add 32) 0 w4 fun w5 =>
  R r12_b r12_l r12_c w5
theorem store_encMeta.B0_eq (m0_0 : Bool) (m0_1 m0_2 m0_3 : Int) (w : World)   (R : Option Addr → Nat → Nat → World → Prop)  :
    (
  New (.cells #[.bool m0_0, .int .i64 m0_1, .int .i64 m0_2, .int .i64 m0_3] 115) w fun m0_ w1 =>
  Make 5 (.int .u8 (0 : Int)) 1 1 (64 : Int) (64 : Int) w1 fun b4 w2 =>
  LdI .i64 ⟨m0_, 1, none⟩ w2 fun x7 =>
  store_put8.Call (some ⟨b4, 0, none⟩) 64 64 (1 : Int) x7 w2 fun r8_b r8_l r8_c w3 =>
  LdI .i64 ⟨m0_, 2, none⟩ w3 fun x11 =>
  store_put8.Call r8_b r8_l r8_c (9 : Int) x11 w3 fun r12_b r12_l r12_c w4 =>
  LdI .i64 ⟨m0_, 3, none⟩ w4 fun x15 =>
  Pn r12_b fun a =>
  (0 ≤ (32 : Int) ∧ (32 : Int) < ((r12_l : Nat) : Int)) ∧
  Sts [.int .u8 (IntKind.u8.wrap (IntKind.i64.wrap (x15 + (1 : Int))))] (a.add 32) 0 w4 fun w5 =>
  R r12_b r12_l r12_c w5) = kstep Tryz.prog 20 Tryz.f182.results.toList (Tryz.f182.body.getD .skip) (store_encMeta.RV R) (kvc Tryz.prog 20 Tryz.f182.results.toList (Tryz.f182.body.getD .skip) (store_encMeta.RV R) [] 2000) [(0, [])] [(0, .agg #[.bool m0_0, .int .i64 m0_1, .int .i64 m0_2, .int .i64 m0_3])] w := by kernel_rfl
theorem store_encMeta.B0_sound {R : Option Addr → Nat → Nat → World → Prop}  (m0_0 : Bool) (m0_1 m0_2 m0_3 : Int) (w : World) (h : store_encMeta.B0 m0_0 m0_1 m0_2 m0_3 w   R) :
    KW Tryz.prog 182 20 (store_encMeta.RV R) ([(0, [])].map (toItem (Tryz.f182.body.getD .skip))) [(0, .agg #[.bool m0_0, .int .i64 m0_1, .int .i64 m0_2, .int .i64 m0_3])] w := by
  exact block_spec Tryz.func182 Tryz.mixed stops_nil (Eq.mp (store_encMeta.B0_eq m0_0 m0_1 m0_2 m0_3 w   R ) h)
theorem store_encMeta.sound (m0_0 : Bool) (m0_1 m0_2 m0_3 : Int) (w : World) (R : Option Addr → Nat → Nat → World → Prop) (h : store_encMeta.B0 m0_0 m0_1 m0_2 m0_3 w R) : store_encMeta.Call m0_0 m0_1 m0_2 m0_3 w R := by
  have hc := calls_of_block (args := #[.agg #[.bool m0_0, .int .i64 m0_1, .int .i64 m0_2, .int .i64 m0_3]]) Tryz.func182 (body := (Tryz.f182.body.getD .skip)) (by kernel_rfl) (by kernel_rfl) (args_slot _) (store_encMeta.B0_sound m0_0 m0_1 m0_2 m0_3 w h)
  exact hc.mono fun e w' he => by
    obtain ⟨v, rfl, hv⟩ := he
    exact store_encMeta.RV_elim hv
def store_Store_PutRec.B2 (t : Option Addr) (slot : Int) (r : Nat) (t37 : Bool) (w : World)   (R : Int → World → Prop) : Prop :=
  Bm t37 (
    R (4 : Int) w) (
    Pn t fun a =>
    (0 ≤ slot ∧ slot < ((6 : Nat) : Int)) ∧
    LdB (Addr.add (a.add 28) (slot.toNat * 1)) w fun x43 =>
    Bm x43 (
      R (3 : Int) w) (
      LdI .i64 ⟨r, 0, none⟩ w.drew fun x48_0 =>
      LdI .i64 ⟨r, 1, none⟩ w.drew fun x48_1 =>
      LdS ⟨r, 2, none⟩ w.drew fun x48_2 =>
      Pn t fun a_1 =>
      (0 ≤ slot ∧ slot < ((6 : Nat) : Int)) ∧
      Pn t fun a_2 =>
      Sts [.bool true] (Addr.add (a_1.add 28) (slot.toNat * 1)) 0 w.drew fun w1 =>
      w1.cell? ⟨r, 0, none⟩ = some (.int .i64 x48_0) ∧
      w1.cell? ⟨r, 1, none⟩ = some (.int .i64 x48_1) ∧
      w1.cell? ⟨r, 2, none⟩ = some (.string x48_2) ∧
      (0 ≤ slot ∧ slot < ((6 : Nat) : Int)) ∧
      Sts [.int .i64 x48_0, .int .i64 x48_1, .string x48_2] (Addr.add (a_2.add 34) (slot.toNat * 3)) 0 w1 fun w2 =>
      LdI .i64 ⟨r, 0, none⟩ w2 fun x55_0 =>
      LdI .i64 ⟨r, 1, none⟩ w2 fun x55_1 =>
      LdS ⟨r, 2, none⟩ w2 fun x55_2 =>
      store_encRec.Call x55_0 x55_1 x55_2 w2 fun r56_b r56_l r56_c w3 =>
      store_Store_write.Call t (IntKind.i64.wrap ((8 : Int) + slot)) r56_b r56_l r56_c w3 fun w4 =>
      R (0 : Int) w4))
theorem store_Store_PutRec.B2_eq (t : Option Addr) (slot : Int) (r : Nat) (t37 : Bool) (w : World)   (R : Int → World → Prop)  :
    (
  Bm t37 (
    R (4 : Int) w) (
    Pn t fun a =>
    (0 ≤ slot ∧ slot < ((6 : Nat) : Int)) ∧
    LdB (Addr.add (a.add 28) (slot.toNat * 1)) w fun x43 =>
    Bm x43 (
      R (3 : Int) w) (
      LdI .i64 ⟨r, 0, none⟩ w.drew fun x48_0 =>
      LdI .i64 ⟨r, 1, none⟩ w.drew fun x48_1 =>
      LdS ⟨r, 2, none⟩ w.drew fun x48_2 =>
      Pn t fun a_1 =>
      (0 ≤ slot ∧ slot < ((6 : Nat) : Int)) ∧
      Pn t fun a_2 =>
      Sts [.bool true] (Addr.add (a_1.add 28) (slot.toNat * 1)) 0 w.drew fun w1 =>
      w1.cell? ⟨r, 0, none⟩ = some (.int .i64 x48_0) ∧
      w1.cell? ⟨r, 1, none⟩ = some (.int .i64 x48_1) ∧
      w1.cell? ⟨r, 2, none⟩ = some (.string x48_2) ∧
      (0 ≤ slot ∧ slot < ((6 : Nat) : Int)) ∧
      Sts [.int .i64 x48_0, .int .i64 x48_1, .string x48_2] (Addr.add (a_2.add 34) (slot.toNat * 3)) 0 w1 fun w2 =>
      LdI .i64 ⟨r, 0, none⟩ w2 fun x55_0 =>
      LdI .i64 ⟨r, 1, none⟩ w2 fun x55_1 =>
      LdS ⟨r, 2, none⟩ w2 fun x55_2 =>
      store_encRec.Call x55_0 x55_1 x55_2 w2 fun r56_b r56_l r56_c w3 =>
      store_Store_write.Call t (IntKind.i64.wrap ((8 : Int) + slot)) r56_b r56_l r56_c w3 fun w4 =>
      R (0 : Int) w4))) = kstep Tryz.prog 62 Tryz.f183.results.toList (Tryz.f183.body.getD .skip) (store_Store_PutRec.RV R) (kvc Tryz.prog 62 Tryz.f183.results.toList (Tryz.f183.body.getD .skip) (store_Store_PutRec.RV R) [] 2000) [(0, [1, 1, 0, 1]), (0, [1, 1, 1])] [(0, .pointer t), (1, .int .i64 slot), (5, .pointer (some ⟨r, 0, none⟩)), (37, .bool t37)] w := by kernel_rfl
theorem store_Store_PutRec.B2_sound {R : Int → World → Prop}  (t : Option Addr) (slot : Int) (r : Nat) (t37 : Bool) (w : World) (h : store_Store_PutRec.B2 t slot r t37 w   R) :
    KW Tryz.prog 183 62 (store_Store_PutRec.RV R) ([(0, [1, 1, 0, 1]), (0, [1, 1, 1])].map (toItem (Tryz.f183.body.getD .skip))) [(0, .pointer t), (1, .int .i64 slot), (5, .pointer (some ⟨r, 0, none⟩)), (37, .bool t37)] w := by
  exact block_spec Tryz.func183 Tryz.mixed stops_nil (Eq.mp (store_Store_PutRec.B2_eq t slot r t37 w   R ) h)
def store_Store_PutRec.B1 (t : Option Addr) (slot : Int) (r : Nat) (t13 : Bool) (w : World)   (R : Int → World → Prop) : Prop :=
  Bm t13 (
    R (1 : Int) w) (
    LdI .i64 ⟨r, 0, none⟩ w fun x15 =>
    Bm (decide (x15 < (1 : Int))) (
      store_Store_PutRec.B2 t slot r true w  R) (
      LdI .i64 ⟨r, 0, none⟩ w fun x19 =>
      Bm (decide (x19 > (72057594037927936 : Int))) (
        store_Store_PutRec.B2 t slot r true w  R) (
        LdI .i64 ⟨r, 1, none⟩ w fun x24 =>
        Bm (decide (x24 < (0 : Int))) (
          store_Store_PutRec.B2 t slot r true w  R) (
          LdI .i64 ⟨r, 1, none⟩ w fun x29 =>
          Bm (decide (x29 > (72057594037927936 : Int))) (
            store_Store_PutRec.B2 t slot r true w  R) (
            LdS ⟨r, 2, none⟩ w fun x34 =>
            store_Store_PutRec.B2 t slot r (decide (((x34.size : Nat) : Int) > (24 : Int))) w  R)))))
theorem store_Store_PutRec.B1_eq (t : Option Addr) (slot : Int) (r : Nat) (t13 : Bool) (w : World)   (R : Int → World → Prop) (sB2 : Option Addr → Int → Nat → Bool → World → Prop) :
    (
  Bm t13 (
    R (1 : Int) w) (
    LdI .i64 ⟨r, 0, none⟩ w fun x15 =>
    Bm (decide (x15 < (1 : Int))) (
      sB2 t slot r true w) (
      LdI .i64 ⟨r, 0, none⟩ w fun x19 =>
      Bm (decide (x19 > (72057594037927936 : Int))) (
        sB2 t slot r true w) (
        LdI .i64 ⟨r, 1, none⟩ w fun x24 =>
        Bm (decide (x24 < (0 : Int))) (
          sB2 t slot r true w) (
          LdI .i64 ⟨r, 1, none⟩ w fun x29 =>
          Bm (decide (x29 > (72057594037927936 : Int))) (
            sB2 t slot r true w) (
            LdS ⟨r, 2, none⟩ w fun x34 =>
            sB2 t slot r (decide (((x34.size : Nat) : Int) > (24 : Int))) w)))))) = kstep Tryz.prog 62 Tryz.f183.results.toList (Tryz.f183.body.getD .skip) (store_Store_PutRec.RV R) (kvc Tryz.prog 62 Tryz.f183.results.toList (Tryz.f183.body.getD .skip) (store_Store_PutRec.RV R) [([(0, [1, 1, 0, 1]), (0, [1, 1, 1])], fun σ w => dP (slotOf σ 0) fun t_ => dI .i64 (slotOf σ 1) fun slot_ => dK (slotOf σ 5) fun r_ => dB (slotOf σ 37) fun t37_ => sB2 t_ slot_ r_ t37_ w)] 2000) [(0, [1, 0, 1]), (0, [1, 1])] [(0, .pointer t), (1, .int .i64 slot), (5, .pointer (some ⟨r, 0, none⟩)), (13, .bool t13)] w := by kernel_rfl
theorem store_Store_PutRec.B1_sound {R : Int → World → Prop}  (t : Option Addr) (slot : Int) (r : Nat) (t13 : Bool) (w : World) (h : store_Store_PutRec.B1 t slot r t13 w   R) :
    KW Tryz.prog 183 62 (store_Store_PutRec.RV R) ([(0, [1, 0, 1]), (0, [1, 1])].map (toItem (Tryz.f183.body.getD .skip))) [(0, .pointer t), (1, .int .i64 slot), (5, .pointer (some ⟨r, 0, none⟩)), (13, .bool t13)] w := by
  exact block_spec Tryz.func183 Tryz.mixed (stops_cons (fun σ w h => by
      obtain ⟨t_, e0, h⟩ := dP_elim h
      obtain ⟨slot_, e1, h⟩ := dI_elim h
      obtain ⟨r_, e2, h⟩ := dK_elim h
      obtain ⟨t37_, e3, h⟩ := dB_elim h
      exact (store_Store_PutRec.B2_sound  t_ slot_ r_ t37_ w h).weaken (Sub.cons (Sub.cons (Sub.cons (Sub.cons (Sub.nil _) e3) e2) e1) e0)) stops_nil) (Eq.mp (store_Store_PutRec.B1_eq t slot r t13 w   R (fun t_ slot_ r_ t37_ w => store_Store_PutRec.B2 t_ slot_ r_ t37_ w  R)) h)
def store_Store_PutRec.B0 (t : Option Addr) (slot r_0 r_1 : Int) (r_2 : ByteArray) (w : World)   (R : Int → World → Prop) : Prop :=
  New (.cells #[.int .i64 r_0, .int .i64 r_1, .string r_2] 120) w fun r_ w1 =>
  Bm (decide (slot < (0 : Int))) (
    store_Store_PutRec.B1 t slot r_ true w1  R) (
    store_Store_PutRec.B1 t slot r_ (decide (slot ≥ (6 : Int))) w1  R)
theorem store_Store_PutRec.B0_eq (t : Option Addr) (slot r_0 r_1 : Int) (r_2 : ByteArray) (w : World)   (R : Int → World → Prop) (sB1 : Option Addr → Int → Nat → Bool → World → Prop) :
    (
  New (.cells #[.int .i64 r_0, .int .i64 r_1, .string r_2] 120) w fun r_ w1 =>
  Bm (decide (slot < (0 : Int))) (
    sB1 t slot r_ true w1) (
    sB1 t slot r_ (decide (slot ≥ (6 : Int))) w1)) = kstep Tryz.prog 62 Tryz.f183.results.toList (Tryz.f183.body.getD .skip) (store_Store_PutRec.RV R) (kvc Tryz.prog 62 Tryz.f183.results.toList (Tryz.f183.body.getD .skip) (store_Store_PutRec.RV R) [([(0, [1, 0, 1]), (0, [1, 1])], fun σ w => dP (slotOf σ 0) fun t_ => dI .i64 (slotOf σ 1) fun slot_ => dK (slotOf σ 5) fun r_ => dB (slotOf σ 13) fun t13_ => sB1 t_ slot_ r_ t13_ w)] 2000) [(0, [])] [(0, .pointer t), (1, .int .i64 slot), (2, .agg #[.int .i64 r_0, .int .i64 r_1, .string r_2])] w := by kernel_rfl
theorem store_Store_PutRec.B0_sound {R : Int → World → Prop}  (t : Option Addr) (slot r_0 r_1 : Int) (r_2 : ByteArray) (w : World) (h : store_Store_PutRec.B0 t slot r_0 r_1 r_2 w   R) :
    KW Tryz.prog 183 62 (store_Store_PutRec.RV R) ([(0, [])].map (toItem (Tryz.f183.body.getD .skip))) [(0, .pointer t), (1, .int .i64 slot), (2, .agg #[.int .i64 r_0, .int .i64 r_1, .string r_2])] w := by
  exact block_spec Tryz.func183 Tryz.mixed (stops_cons (fun σ w h => by
      obtain ⟨t_, e0, h⟩ := dP_elim h
      obtain ⟨slot_, e1, h⟩ := dI_elim h
      obtain ⟨r_, e2, h⟩ := dK_elim h
      obtain ⟨t13_, e3, h⟩ := dB_elim h
      exact (store_Store_PutRec.B1_sound  t_ slot_ r_ t13_ w h).weaken (Sub.cons (Sub.cons (Sub.cons (Sub.cons (Sub.nil _) e3) e2) e1) e0)) stops_nil) (Eq.mp (store_Store_PutRec.B0_eq t slot r_0 r_1 r_2 w   R (fun t_ slot_ r_ t13_ w => store_Store_PutRec.B1 t_ slot_ r_ t13_ w  R)) h)
theorem store_Store_PutRec.sound (t : Option Addr) (slot r_0 r_1 : Int) (r_2 : ByteArray) (w : World) (R : Int → World → Prop) (h : store_Store_PutRec.B0 t slot r_0 r_1 r_2 w R) : store_Store_PutRec.Call t slot r_0 r_1 r_2 w R := by
  have hc := calls_of_block (args := #[.pointer t, .int .i64 slot, .agg #[.int .i64 r_0, .int .i64 r_1, .string r_2]]) Tryz.func183 (body := (Tryz.f183.body.getD .skip)) (by kernel_rfl) (by kernel_rfl) (args_slot _) (store_Store_PutRec.B0_sound t slot r_0 r_1 r_2 w h)
  exact hc.mono fun e w' he => by
    obtain ⟨v, rfl, hv⟩ := he
    exact store_Store_PutRec.RV_elim hv
def rlog_Log_TruncateFrom.B0 (l : Option Addr) (i : Int) (w : World)   (R : Int → World → Prop) : Prop :=
  Pn l fun a =>
  LdI .i64 (a.add 3) w fun x9 =>
  Bm (decide (i ≤ x9)) (
    R (7 : Int) w) (
    rlog_Log_dropFrom.Call l i w fun r13 w1 =>
    R r13 w1)
theorem rlog_Log_TruncateFrom.B0_eq (l : Option Addr) (i : Int) (w : World)   (R : Int → World → Prop)  :
    (
  Pn l fun a =>
  LdI .i64 (a.add 3) w fun x9 =>
  Bm (decide (i ≤ x9)) (
    R (7 : Int) w) (
    rlog_Log_dropFrom.Call l i w fun r13 w1 =>
    R r13 w1)) = kstep Tryz.prog 14 Tryz.f184.results.toList (Tryz.f184.body.getD .skip) (rlog_Log_TruncateFrom.RV R) (kvc Tryz.prog 14 Tryz.f184.results.toList (Tryz.f184.body.getD .skip) (rlog_Log_TruncateFrom.RV R) [] 2000) [(0, [])] [(0, .pointer l), (1, .int .i64 i)] w := by kernel_rfl
theorem rlog_Log_TruncateFrom.B0_sound {R : Int → World → Prop}  (l : Option Addr) (i : Int) (w : World) (h : rlog_Log_TruncateFrom.B0 l i w   R) :
    KW Tryz.prog 184 14 (rlog_Log_TruncateFrom.RV R) ([(0, [])].map (toItem (Tryz.f184.body.getD .skip))) [(0, .pointer l), (1, .int .i64 i)] w := by
  exact block_spec Tryz.func184 Tryz.mixed stops_nil (Eq.mp (rlog_Log_TruncateFrom.B0_eq l i w   R ) h)
theorem rlog_Log_TruncateFrom.sound (l : Option Addr) (i : Int) (w : World) (R : Int → World → Prop) (h : rlog_Log_TruncateFrom.B0 l i w R) : rlog_Log_TruncateFrom.Call l i w R := by
  have hc := calls_of_block (args := #[.pointer l, .int .i64 i]) Tryz.func184 (body := (Tryz.f184.body.getD .skip)) (by kernel_rfl) (by kernel_rfl) (args_slot _) (rlog_Log_TruncateFrom.B0_sound l i w h)
  exact hc.mono fun e w' he => by
    obtain ⟨v, rfl, hv⟩ := he
    exact rlog_Log_TruncateFrom.RV_elim hv
def store_chunk.B1 (data : ByteArray) (k : Int) (b_b : Option Addr) (b_l b_c : Nat) (i : Int) (t18 : Bool) (w : World) (N1 : ByteArray → Int → Option Addr → Nat → Nat → Int → World → Prop)  (R : ByteArray → World → Prop) : Prop :=
  Bm t18 (
    (0 ≤ (IntKind.i64.wrap ((IntKind.i64.wrap (k * (64 : Int))) + i)) ∧ (IntKind.i64.wrap ((IntKind.i64.wrap (k * (64 : Int))) + i)) < ((data.size : Nat) : Int)) ∧
    Pn b_b fun a =>
    (0 ≤ i ∧ i < ((b_l : Nat) : Int)) ∧
    Sts [.int .u8 (byteAt data (IntKind.i64.wrap ((IntKind.i64.wrap (k * (64 : Int))) + i)))] (Addr.add a (i.toNat * 1)) 0 w fun w1 =>
    N1 data k b_b b_l b_c (IntKind.i64.wrap (i + (1 : Int))) w1) (
    ToStr b_b b_l w fun s31 =>
    R s31 w)
theorem store_chunk.B1_eq (data : ByteArray) (k : Int) (b_b : Option Addr) (b_l b_c : Nat) (i : Int) (t18 : Bool) (w : World) (N1 : ByteArray → Int → Option Addr → Nat → Nat → Int → World → Prop)  (R : ByteArray → World → Prop)  :
    (
  Bm t18 (
    (0 ≤ (IntKind.i64.wrap ((IntKind.i64.wrap (k * (64 : Int))) + i)) ∧ (IntKind.i64.wrap ((IntKind.i64.wrap (k * (64 : Int))) + i)) < ((data.size : Nat) : Int)) ∧
    Pn b_b fun a =>
    (0 ≤ i ∧ i < ((b_l : Nat) : Int)) ∧
    Sts [.int .u8 (byteAt data (IntKind.i64.wrap ((IntKind.i64.wrap (k * (64 : Int))) + i)))] (Addr.add a (i.toNat * 1)) 0 w fun w1 =>
    N1 data k b_b b_l b_c (IntKind.i64.wrap (i + (1 : Int))) w1) (
    ToStr b_b b_l w fun s31 =>
    R s31 w)) = kstep Tryz.prog 32 Tryz.f185.results.toList (Tryz.f185.body.getD .skip) (store_chunk.RV R) (kvc Tryz.prog 32 Tryz.f185.results.toList (Tryz.f185.body.getD .skip) (store_chunk.RV R) [([(0, [1, 1, 0, 1, 0, 0]), (2, [1, 1, 0, 1, 0, 0]), (1, [0]), (0, [1, 1, 1])], fun σ w => dS (slotOf σ 0) fun data_ => dI .i64 (slotOf σ 1) fun k_ => dL (slotOf σ 5) fun b_b_ b_l_ b_c_ => dI .i64 (slotOf σ 6) fun i_ => N1 data_ k_ b_b_ b_l_ b_c_ i_ w)] 2000) [(0, [1, 1, 0, 1, 0, 0, 0, 1]), (0, [1, 1, 0, 1, 0, 0, 1]), (2, [1, 1, 0, 1, 0, 0]), (1, [0]), (0, [1, 1, 1])] [(0, .string data), (1, .int .i64 k), (5, .slice b_b b_l b_c), (6, .int .i64 i), (18, .bool t18)] w := by kernel_rfl
theorem store_chunk.B1_sound {R : ByteArray → World → Prop} {N1 : ByteArray → Int → Option Addr → Nat → Nat → Int → World → Prop} (hN1 : ∀ data k b_b b_l b_c i w, N1 data k b_b b_l b_c i w → KW Tryz.prog 185 32 (store_chunk.RV R) ([(0, [1, 1, 0, 1, 0, 0]), (2, [1, 1, 0, 1, 0, 0]), (1, [0]), (0, [1, 1, 1])].map (toItem (Tryz.f185.body.getD .skip))) [(0, .string data), (1, .int .i64 k), (5, .slice b_b b_l b_c), (6, .int .i64 i)] w) (data : ByteArray) (k : Int) (b_b : Option Addr) (b_l b_c : Nat) (i : Int) (t18 : Bool) (w : World) (h : store_chunk.B1 data k b_b b_l b_c i t18 w N1  R) :
    KW Tryz.prog 185 32 (store_chunk.RV R) ([(0, [1, 1, 0, 1, 0, 0, 0, 1]), (0, [1, 1, 0, 1, 0, 0, 1]), (2, [1, 1, 0, 1, 0, 0]), (1, [0]), (0, [1, 1, 1])].map (toItem (Tryz.f185.body.getD .skip))) [(0, .string data), (1, .int .i64 k), (5, .slice b_b b_l b_c), (6, .int .i64 i), (18, .bool t18)] w := by
  exact block_spec Tryz.func185 Tryz.mixed (stops_cons (fun σ w h => by
      obtain ⟨data_, e0, h⟩ := dS_elim h
      obtain ⟨k_, e1, h⟩ := dI_elim h
      obtain ⟨b_b_, b_l_, b_c_, e2, h⟩ := dL_elim h
      obtain ⟨i_, e3, h⟩ := dI_elim h
      exact (hN1 data_ k_ b_b_ b_l_ b_c_ i_ w h).weaken (Sub.cons (Sub.cons (Sub.cons (Sub.cons (Sub.nil _) e3) e2) e1) e0)) stops_nil) (Eq.mp (store_chunk.B1_eq data k b_b b_l b_c i t18 w N1  R ) h)
def store_chunk.L1b (data : ByteArray) (k : Int) (b_b : Option Addr) (b_l b_c : Nat) (i : Int) (w : World)  (N1 : ByteArray → Int → Option Addr → Nat → Nat → Int → World → Prop) (R : ByteArray → World → Prop) : Prop :=
  Bm (decide (i < (64 : Int))) (
    store_chunk.B1 data k b_b b_l b_c i (decide ((IntKind.i64.wrap ((IntKind.i64.wrap (k * (64 : Int))) + i)) < ((data.size : Nat) : Int))) w N1 R) (
    store_chunk.B1 data k b_b b_l b_c i false w N1 R)
theorem store_chunk.L1b_eq (data : ByteArray) (k : Int) (b_b : Option Addr) (b_l b_c : Nat) (i : Int) (w : World)  (N1 : ByteArray → Int → Option Addr → Nat → Nat → Int → World → Prop) (R : ByteArray → World → Prop) (sB1 : ByteArray → Int → Option Addr → Nat → Nat → Int → Bool → World → Prop) :
    (
  Bm (decide (i < (64 : Int))) (
    sB1 data k b_b b_l b_c i (decide ((IntKind.i64.wrap ((IntKind.i64.wrap (k * (64 : Int))) + i)) < ((data.size : Nat) : Int))) w) (
    sB1 data k b_b b_l b_c i false w)) = kstep Tryz.prog 32 Tryz.f185.results.toList (Tryz.f185.body.getD .skip) (store_chunk.RV R) (kvc Tryz.prog 32 Tryz.f185.results.toList (Tryz.f185.body.getD .skip) (store_chunk.RV R) [([(0, [1, 1, 0, 1, 0, 0, 0, 1]), (0, [1, 1, 0, 1, 0, 0, 1]), (2, [1, 1, 0, 1, 0, 0]), (1, [0]), (0, [1, 1, 1])], fun σ w => dS (slotOf σ 0) fun data_ => dI .i64 (slotOf σ 1) fun k_ => dL (slotOf σ 5) fun b_b_ b_l_ b_c_ => dI .i64 (slotOf σ 6) fun i_ => dB (slotOf σ 18) fun t18_ => sB1 data_ k_ b_b_ b_l_ b_c_ i_ t18_ w)] 2000) [(0, [1, 1, 0, 1, 0, 0]), (2, [1, 1, 0, 1, 0, 0]), (1, [0]), (0, [1, 1, 1])] [(0, .string data), (1, .int .i64 k), (5, .slice b_b b_l b_c), (6, .int .i64 i)] w := by kernel_rfl
theorem store_chunk.L1b_sound {R : ByteArray → World → Prop} {N1 : ByteArray → Int → Option Addr → Nat → Nat → Int → World → Prop} (hN1 : ∀ data k b_b b_l b_c i w, N1 data k b_b b_l b_c i w → KW Tryz.prog 185 32 (store_chunk.RV R) ([(0, [1, 1, 0, 1, 0, 0]), (2, [1, 1, 0, 1, 0, 0]), (1, [0]), (0, [1, 1, 1])].map (toItem (Tryz.f185.body.getD .skip))) [(0, .string data), (1, .int .i64 k), (5, .slice b_b b_l b_c), (6, .int .i64 i)] w) (data : ByteArray) (k : Int) (b_b : Option Addr) (b_l b_c : Nat) (i : Int) (w : World) (h : store_chunk.L1b data k b_b b_l b_c i w  N1 R) :
    KW Tryz.prog 185 32 (store_chunk.RV R) ([(0, [1, 1, 0, 1, 0, 0]), (2, [1, 1, 0, 1, 0, 0]), (1, [0]), (0, [1, 1, 1])].map (toItem (Tryz.f185.body.getD .skip))) [(0, .string data), (1, .int .i64 k), (5, .slice b_b b_l b_c), (6, .int .i64 i)] w := by
  exact block_spec Tryz.func185 Tryz.mixed (stops_cons (fun σ w h => by
      obtain ⟨data_, e0, h⟩ := dS_elim h
      obtain ⟨k_, e1, h⟩ := dI_elim h
      obtain ⟨b_b_, b_l_, b_c_, e2, h⟩ := dL_elim h
      obtain ⟨i_, e3, h⟩ := dI_elim h
      obtain ⟨t18_, e4, h⟩ := dB_elim h
      exact (store_chunk.B1_sound hN1 data_ k_ b_b_ b_l_ b_c_ i_ t18_ w h).weaken (Sub.cons (Sub.cons (Sub.cons (Sub.cons (Sub.cons (Sub.nil _) e4) e3) e2) e1) e0)) stops_nil) (Eq.mp (store_chunk.L1b_eq data k b_b b_l b_c i w  N1 R (fun data_ k_ b_b_ b_l_ b_c_ i_ t18_ w => store_chunk.B1 data_ k_ b_b_ b_l_ b_c_ i_ t18_ w N1 R)) h)
def store_chunk.L1 (data : ByteArray) (k : Int) (b_b : Option Addr) (b_l b_c : Nat) (i : Int) (w : World)  (R : ByteArray → World → Prop) : Prop :=
  ∃ (I : Nat → ByteArray → Int → Option Addr → Nat → Nat → Int → World → Prop) (m : Nat), I m data k b_b b_l b_c i w ∧ ∀ m data k b_b b_l b_c i w, I m data k b_b b_l b_c i w → store_chunk.L1b data k b_b b_l b_c i w  (fun data' k' b_b' b_l' b_c' i' w' => ∃ m', m' < m ∧ I m' data' k' b_b' b_l' b_c' i' w') R
theorem store_chunk.L1_sound {R : ByteArray → World → Prop}  (data : ByteArray) (k : Int) (b_b : Option Addr) (b_l b_c : Nat) (i : Int) (w : World) (h : store_chunk.L1 data k b_b b_l b_c i w  R) :
    KW Tryz.prog 185 32 (store_chunk.RV R) ([(0, [1, 1, 0, 1, 0, 0]), (2, [1, 1, 0, 1, 0, 0]), (1, [0]), (0, [1, 1, 1])].map (toItem (Tryz.f185.body.getD .skip))) [(0, .string data), (1, .int .i64 k), (5, .slice b_b b_l b_c), (6, .int .i64 i)] w := by
  obtain ⟨I, m, hBase, hr⟩ := h
  refine KW.loop (fun m σ w => ∃ (data : ByteArray) (k : Int) (b_b : Option Addr) (b_l b_c : Nat) (i : Int), σ = [(0, .string data), (1, .int .i64 k), (5, .slice b_b b_l b_c), (6, .int .i64 i)] ∧ I m data k b_b b_l b_c i w) ?_ m _ w ⟨data, k, b_b, b_l, b_c, i, rfl, hBase⟩
  rintro m ih σ w ⟨data, k, b_b, b_l, b_c, i, rfl, hI⟩
  exact store_chunk.L1b_sound  (N1 := fun data' k' b_b' b_l' b_c' i' w' => ∃ m', m' < m ∧ I m' data' k' b_b' b_l' b_c' i' w') (fun data' k' b_b' b_l' b_c' i' w' hx => by obtain ⟨m', hlt, hI'⟩ := hx; exact ih m' hlt _ w' ⟨data', k', b_b', b_l', b_c', i', rfl, hI'⟩) data k b_b b_l b_c i w (hr m data k b_b b_l b_c i w hI)
def store_chunk.B0 (data : ByteArray) (k : Int) (w : World)   (R : ByteArray → World → Prop) : Prop :=
  Make 5 (.int .u8 (0 : Int)) 1 1 (64 : Int) (64 : Int) w fun b7 w1 =>
  store_chunk.L1 data k (some ⟨b7, 0, none⟩) 64 64 (0 : Int) w1  R
theorem store_chunk.B0_eq (data : ByteArray) (k : Int) (w : World)   (R : ByteArray → World → Prop) (sL1 : ByteArray → Int → Option Addr → Nat → Nat → Int → World → Prop) :
    (
  Make 5 (.int .u8 (0 : Int)) 1 1 (64 : Int) (64 : Int) w fun b7 w1 =>
  sL1 data k (some ⟨b7, 0, none⟩) 64 64 (0 : Int) w1) = kstep Tryz.prog 32 Tryz.f185.results.toList (Tryz.f185.body.getD .skip) (store_chunk.RV R) (kvc Tryz.prog 32 Tryz.f185.results.toList (Tryz.f185.body.getD .skip) (store_chunk.RV R) [([(0, [1, 1, 0, 1, 0, 0]), (2, [1, 1, 0, 1, 0, 0]), (1, [0]), (0, [1, 1, 1])], fun σ w => dS (slotOf σ 0) fun data_ => dI .i64 (slotOf σ 1) fun k_ => dL (slotOf σ 5) fun b_b_ b_l_ b_c_ => dI .i64 (slotOf σ 6) fun i_ => sL1 data_ k_ b_b_ b_l_ b_c_ i_ w)] 2000) [(0, [])] [(0, .string data), (1, .int .i64 k)] w := by kernel_rfl
theorem store_chunk.B0_sound {R : ByteArray → World → Prop}  (data : ByteArray) (k : Int) (w : World) (h : store_chunk.B0 data k w   R) :
    KW Tryz.prog 185 32 (store_chunk.RV R) ([(0, [])].map (toItem (Tryz.f185.body.getD .skip))) [(0, .string data), (1, .int .i64 k)] w := by
  exact block_spec Tryz.func185 Tryz.mixed (stops_cons (fun σ w h => by
      obtain ⟨data_, e0, h⟩ := dS_elim h
      obtain ⟨k_, e1, h⟩ := dI_elim h
      obtain ⟨b_b_, b_l_, b_c_, e2, h⟩ := dL_elim h
      obtain ⟨i_, e3, h⟩ := dI_elim h
      exact (store_chunk.L1_sound  data_ k_ b_b_ b_l_ b_c_ i_ w h).weaken (Sub.cons (Sub.cons (Sub.cons (Sub.cons (Sub.nil _) e3) e2) e1) e0)) stops_nil) (Eq.mp (store_chunk.B0_eq data k w   R (fun data_ k_ b_b_ b_l_ b_c_ i_ w => store_chunk.L1 data_ k_ b_b_ b_l_ b_c_ i_ w  R)) h)
theorem store_chunk.sound (data : ByteArray) (k : Int) (w : World) (R : ByteArray → World → Prop) (h : store_chunk.B0 data k w R) : store_chunk.Call data k w R := by
  have hc := calls_of_block (args := #[.string data, .int .i64 k]) Tryz.func185 (body := (Tryz.f185.body.getD .skip)) (by kernel_rfl) (by kernel_rfl) (args_slot _) (store_chunk.B0_sound data k w h)
  exact hc.mono fun e w' he => by
    obtain ⟨v, rfl, hv⟩ := he
    exact store_chunk.RV_elim hv
end Go.Proofs.Qxb6500433aGreat
