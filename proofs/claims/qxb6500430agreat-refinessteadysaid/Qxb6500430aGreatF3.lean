import Derived.Test.Qxb6500430aGreatSig
set_option maxRecDepth 100000
set_option linter.unusedVariables false
open Go.Vc
namespace Go.Proofs.Qxb6500430aGreat
def nodelaw_Match.L1b (x m0 : Option Addr) (n j : Int) (w : World)  (N1 : Option Addr → Option Addr → Int → Int → World → Prop) (R : Int → World → Prop) : Prop :=
  Bm (decide (j ≤ n)) (
    nodem_Node_After.Call m0 j w fun r17 w1 =>
    nodelaw_Alike.Call x r17 (ByteArray.mk #[]) w1 fun r20 w2 =>
    Bm r20 (
      R j w2) (
      N1 x m0 n (IntKind.i64.wrap (j + (1 : Int))) w2)) (
    R (-1 : Int) w)
theorem nodelaw_Match.L1b_eq (x m0 : Option Addr) (n j : Int) (w : World)  (N1 : Option Addr → Option Addr → Int → Int → World → Prop) (R : Int → World → Prop)  :
    (
  Bm (decide (j ≤ n)) (
    nodem_Node_After.Call m0 j w fun r17 w1 =>
    nodelaw_Alike.Call x r17 (ByteArray.mk #[]) w1 fun r20 w2 =>
    Bm r20 (
      R j w2) (
      N1 x m0 n (IntKind.i64.wrap (j + (1 : Int))) w2)) (
    R (-1 : Int) w)) = kstep Tryz.prog 22 Tryz.f27.results.toList (Tryz.f27.body.getD .skip) (nodelaw_Match.RV R) (kvc Tryz.prog 22 Tryz.f27.results.toList (Tryz.f27.body.getD .skip) (nodelaw_Match.RV R) [([(0, [1, 1, 0, 1, 0, 0]), (2, [1, 1, 0, 1, 0, 0]), (1, [0]), (0, [1, 1, 1])], fun σ w => dP (slotOf σ 0) fun x_ => dP (slotOf σ 1) fun m0_ => dI .i64 (slotOf σ 5) fun n_ => dI .i64 (slotOf σ 6) fun j_ => N1 x_ m0_ n_ j_ w)] 2000) [(0, [1, 1, 0, 1, 0, 0]), (2, [1, 1, 0, 1, 0, 0]), (1, [0]), (0, [1, 1, 1])] [(0, .pointer x), (1, .pointer m0), (5, .int .i64 n), (6, .int .i64 j)] w := by kernel_rfl
theorem nodelaw_Match.L1b_sound {R : Int → World → Prop} {N1 : Option Addr → Option Addr → Int → Int → World → Prop} (hN1 : ∀ x m0 n j w, N1 x m0 n j w → KW Tryz.prog 27 22 (nodelaw_Match.RV R) ([(0, [1, 1, 0, 1, 0, 0]), (2, [1, 1, 0, 1, 0, 0]), (1, [0]), (0, [1, 1, 1])].map (toItem (Tryz.f27.body.getD .skip))) [(0, .pointer x), (1, .pointer m0), (5, .int .i64 n), (6, .int .i64 j)] w) (x m0 : Option Addr) (n j : Int) (w : World) (h : nodelaw_Match.L1b x m0 n j w  N1 R) :
    KW Tryz.prog 27 22 (nodelaw_Match.RV R) ([(0, [1, 1, 0, 1, 0, 0]), (2, [1, 1, 0, 1, 0, 0]), (1, [0]), (0, [1, 1, 1])].map (toItem (Tryz.f27.body.getD .skip))) [(0, .pointer x), (1, .pointer m0), (5, .int .i64 n), (6, .int .i64 j)] w := by
  exact block_spec Tryz.func27 Tryz.mixed (stops_cons (fun σ w h => by
      obtain ⟨x_, e0, h⟩ := dP_elim h
      obtain ⟨m0_, e1, h⟩ := dP_elim h
      obtain ⟨n_, e2, h⟩ := dI_elim h
      obtain ⟨j_, e3, h⟩ := dI_elim h
      exact (hN1 x_ m0_ n_ j_ w h).weaken (Sub.cons (Sub.cons (Sub.cons (Sub.cons (Sub.nil _) e3) e2) e1) e0)) stops_nil) (Eq.mp (nodelaw_Match.L1b_eq x m0 n j w  N1 R ) h)
def nodelaw_Match.L1 (x m0 : Option Addr) (n j : Int) (w : World)  (R : Int → World → Prop) : Prop :=
  ∃ (I : Nat → Option Addr → Option Addr → Int → Int → World → Prop) (m : Nat), I m x m0 n j w ∧ ∀ m x m0 n j w, I m x m0 n j w → nodelaw_Match.L1b x m0 n j w  (fun x' m0' n' j' w' => ∃ m', m' < m ∧ I m' x' m0' n' j' w') R
theorem nodelaw_Match.L1_sound {R : Int → World → Prop}  (x m0 : Option Addr) (n j : Int) (w : World) (h : nodelaw_Match.L1 x m0 n j w  R) :
    KW Tryz.prog 27 22 (nodelaw_Match.RV R) ([(0, [1, 1, 0, 1, 0, 0]), (2, [1, 1, 0, 1, 0, 0]), (1, [0]), (0, [1, 1, 1])].map (toItem (Tryz.f27.body.getD .skip))) [(0, .pointer x), (1, .pointer m0), (5, .int .i64 n), (6, .int .i64 j)] w := by
  obtain ⟨I, m, hBase, hr⟩ := h
  refine KW.loop (fun m σ w => ∃ (x m0 : Option Addr) (n j : Int), σ = [(0, .pointer x), (1, .pointer m0), (5, .int .i64 n), (6, .int .i64 j)] ∧ I m x m0 n j w) ?_ m _ w ⟨x, m0, n, j, rfl, hBase⟩
  rintro m ih σ w ⟨x, m0, n, j, rfl, hI⟩
  exact nodelaw_Match.L1b_sound  (N1 := fun x' m0' n' j' w' => ∃ m', m' < m ∧ I m' x' m0' n' j' w') (fun x' m0' n' j' w' hx => by obtain ⟨m', hlt, hI'⟩ := hx; exact ih m' hlt _ w' ⟨x', m0', n', j', rfl, hI'⟩) x m0 n j w (hr m x m0 n j w hI)
def nodelaw_Match.B0 (x m0 : Option Addr) (w : World)   (R : Int → World → Prop) : Prop :=
  nodem_Node_Steps.Call m0 w fun r9 w1 =>
  nodelaw_Match.L1 x m0 r9 (0 : Int) w1  R
theorem nodelaw_Match.B0_eq (x m0 : Option Addr) (w : World)   (R : Int → World → Prop) (sL1 : Option Addr → Option Addr → Int → Int → World → Prop) :
    (
  nodem_Node_Steps.Call m0 w fun r9 w1 =>
  sL1 x m0 r9 (0 : Int) w1) = kstep Tryz.prog 22 Tryz.f27.results.toList (Tryz.f27.body.getD .skip) (nodelaw_Match.RV R) (kvc Tryz.prog 22 Tryz.f27.results.toList (Tryz.f27.body.getD .skip) (nodelaw_Match.RV R) [([(0, [1, 1, 0, 1, 0, 0]), (2, [1, 1, 0, 1, 0, 0]), (1, [0]), (0, [1, 1, 1])], fun σ w => dP (slotOf σ 0) fun x_ => dP (slotOf σ 1) fun m0_ => dI .i64 (slotOf σ 5) fun n_ => dI .i64 (slotOf σ 6) fun j_ => sL1 x_ m0_ n_ j_ w)] 2000) [(0, [])] [(0, .pointer x), (1, .pointer m0)] w := by kernel_rfl
theorem nodelaw_Match.B0_sound {R : Int → World → Prop}  (x m0 : Option Addr) (w : World) (h : nodelaw_Match.B0 x m0 w   R) :
    KW Tryz.prog 27 22 (nodelaw_Match.RV R) ([(0, [])].map (toItem (Tryz.f27.body.getD .skip))) [(0, .pointer x), (1, .pointer m0)] w := by
  exact block_spec Tryz.func27 Tryz.mixed (stops_cons (fun σ w h => by
      obtain ⟨x_, e0, h⟩ := dP_elim h
      obtain ⟨m0_, e1, h⟩ := dP_elim h
      obtain ⟨n_, e2, h⟩ := dI_elim h
      obtain ⟨j_, e3, h⟩ := dI_elim h
      exact (nodelaw_Match.L1_sound  x_ m0_ n_ j_ w h).weaken (Sub.cons (Sub.cons (Sub.cons (Sub.cons (Sub.nil _) e3) e2) e1) e0)) stops_nil) (Eq.mp (nodelaw_Match.B0_eq x m0 w   R (fun x_ m0_ n_ j_ w => nodelaw_Match.L1 x_ m0_ n_ j_ w  R)) h)
theorem nodelaw_Match.sound (x m0 : Option Addr) (w : World) (R : Int → World → Prop) (h : nodelaw_Match.B0 x m0 w R) : nodelaw_Match.Call x m0 w R := by
  have hc := calls_of_block (args := #[.pointer x, .pointer m0]) Tryz.func27 (body := (Tryz.f27.body.getD .skip)) (by kernel_rfl) (by kernel_rfl) (args_slot _) (nodelaw_Match.B0_sound x m0 w h)
  exact hc.mono fun e w' he => by
    obtain ⟨v, rfl, hv⟩ := he
    exact nodelaw_Match.RV_elim hv
def nodem_Node_Steps.B0 (n : Option Addr) (w : World)   (R : Int → World → Prop) : Prop :=
  Pn n fun a =>
  LdP a w fun x6 =>
  syncm_Sync_Steps.Call x6 w fun r7 w1 =>
  R r7 w1
theorem nodem_Node_Steps.B0_eq (n : Option Addr) (w : World)   (R : Int → World → Prop)  :
    (
  Pn n fun a =>
  LdP a w fun x6 =>
  syncm_Sync_Steps.Call x6 w fun r7 w1 =>
  R r7 w1) = kstep Tryz.prog 8 Tryz.f28.results.toList (Tryz.f28.body.getD .skip) (nodem_Node_Steps.RV R) (kvc Tryz.prog 8 Tryz.f28.results.toList (Tryz.f28.body.getD .skip) (nodem_Node_Steps.RV R) [] 2000) [(0, [])] [(0, .pointer n)] w := by kernel_rfl
theorem nodem_Node_Steps.B0_sound {R : Int → World → Prop}  (n : Option Addr) (w : World) (h : nodem_Node_Steps.B0 n w   R) :
    KW Tryz.prog 28 8 (nodem_Node_Steps.RV R) ([(0, [])].map (toItem (Tryz.f28.body.getD .skip))) [(0, .pointer n)] w := by
  exact block_spec Tryz.func28 Tryz.mixed stops_nil (Eq.mp (nodem_Node_Steps.B0_eq n w   R ) h)
theorem nodem_Node_Steps.sound (n : Option Addr) (w : World) (R : Int → World → Prop) (h : nodem_Node_Steps.B0 n w R) : nodem_Node_Steps.Call n w R := by
  have hc := calls_of_block (args := #[.pointer n]) Tryz.func28 (body := (Tryz.f28.body.getD .skip)) (by kernel_rfl) (by kernel_rfl) (args_slot _) (nodem_Node_Steps.B0_sound n w h)
  exact hc.mono fun e w' he => by
    obtain ⟨v, rfl, hv⟩ := he
    exact nodem_Node_Steps.RV_elim hv
def nodem_Node_After.B0 (n : Option Addr) (k : Int) (w : World)   (R : Option Addr → World → Prop) : Prop :=
  Pn n fun a =>
  LdP a w fun x10 =>
  syncm_Sync_After.Call x10 k w fun r12 w1 =>
  kvm_New.Call  w1 fun r13 w2 =>
  nodem_open.Call r12 r13 w2 fun r16 w3 =>
  R r16 w3
theorem nodem_Node_After.B0_eq (n : Option Addr) (k : Int) (w : World)   (R : Option Addr → World → Prop)  :
    (
  Pn n fun a =>
  LdP a w fun x10 =>
  syncm_Sync_After.Call x10 k w fun r12 w1 =>
  kvm_New.Call  w1 fun r13 w2 =>
  nodem_open.Call r12 r13 w2 fun r16 w3 =>
  R r16 w3) = kstep Tryz.prog 17 Tryz.f29.results.toList (Tryz.f29.body.getD .skip) (nodem_Node_After.RV R) (kvc Tryz.prog 17 Tryz.f29.results.toList (Tryz.f29.body.getD .skip) (nodem_Node_After.RV R) [] 2000) [(0, [])] [(0, .pointer n), (1, .int .i64 k)] w := by kernel_rfl
theorem nodem_Node_After.B0_sound {R : Option Addr → World → Prop}  (n : Option Addr) (k : Int) (w : World) (h : nodem_Node_After.B0 n k w   R) :
    KW Tryz.prog 29 17 (nodem_Node_After.RV R) ([(0, [])].map (toItem (Tryz.f29.body.getD .skip))) [(0, .pointer n), (1, .int .i64 k)] w := by
  exact block_spec Tryz.func29 Tryz.mixed stops_nil (Eq.mp (nodem_Node_After.B0_eq n k w   R ) h)
theorem nodem_Node_After.sound (n : Option Addr) (k : Int) (w : World) (R : Option Addr → World → Prop) (h : nodem_Node_After.B0 n k w R) : nodem_Node_After.Call n k w R := by
  have hc := calls_of_block (args := #[.pointer n, .int .i64 k]) Tryz.func29 (body := (Tryz.f29.body.getD .skip)) (by kernel_rfl) (by kernel_rfl) (args_slot _) (nodem_Node_After.B0_sound n k w h)
  exact hc.mono fun e w' he => by
    obtain ⟨v, rfl, hv⟩ := he
    exact nodem_Node_After.RV_elim hv
def nodelaw_Alike.B0 (x m0 : Option Addr) (key : ByteArray) (w : World)   (R : Bool → World → Prop) : Prop :=
  nodelaw_AlikeLog.Call x m0 w fun r9 w1 =>
  Bm (!r9) (
    R false w1) (
    nodelaw_AlikeKV.Call x m0 key w1 fun r14 w2 =>
    R r14 w2)
theorem nodelaw_Alike.B0_eq (x m0 : Option Addr) (key : ByteArray) (w : World)   (R : Bool → World → Prop)  :
    (
  nodelaw_AlikeLog.Call x m0 w fun r9 w1 =>
  Bm (!r9) (
    R false w1) (
    nodelaw_AlikeKV.Call x m0 key w1 fun r14 w2 =>
    R r14 w2)) = kstep Tryz.prog 15 Tryz.f30.results.toList (Tryz.f30.body.getD .skip) (nodelaw_Alike.RV R) (kvc Tryz.prog 15 Tryz.f30.results.toList (Tryz.f30.body.getD .skip) (nodelaw_Alike.RV R) [] 2000) [(0, [])] [(0, .pointer x), (1, .pointer m0), (2, .string key)] w := by kernel_rfl
theorem nodelaw_Alike.B0_sound {R : Bool → World → Prop}  (x m0 : Option Addr) (key : ByteArray) (w : World) (h : nodelaw_Alike.B0 x m0 key w   R) :
    KW Tryz.prog 30 15 (nodelaw_Alike.RV R) ([(0, [])].map (toItem (Tryz.f30.body.getD .skip))) [(0, .pointer x), (1, .pointer m0), (2, .string key)] w := by
  exact block_spec Tryz.func30 Tryz.mixed stops_nil (Eq.mp (nodelaw_Alike.B0_eq x m0 key w   R ) h)
theorem nodelaw_Alike.sound (x m0 : Option Addr) (key : ByteArray) (w : World) (R : Bool → World → Prop) (h : nodelaw_Alike.B0 x m0 key w R) : nodelaw_Alike.Call x m0 key w R := by
  have hc := calls_of_block (args := #[.pointer x, .pointer m0, .string key]) Tryz.func30 (body := (Tryz.f30.body.getD .skip)) (by kernel_rfl) (by kernel_rfl) (args_slot _) (nodelaw_Alike.B0_sound x m0 key w h)
  exact hc.mono fun e w' he => by
    obtain ⟨v, rfl, hv⟩ := he
    exact nodelaw_Alike.RV_elim hv
def diskm_New.L1b (z : ByteArray) (d : Nat) (b : Int) (w : World)  (N1 : ByteArray → Nat → Int → World → Prop) (R : Option Addr → World → Prop) : Prop :=
  Bm (decide (b < (14 : Int))) (
    LdL ⟨d, 0, none⟩ w fun x16_b x16_l x16_c =>
    Pn x16_b fun a =>
    (0 ≤ b ∧ b < ((x16_l : Nat) : Int)) ∧
    Sts [.string z] (Addr.add a (b.toNat * 1)) 0 w fun w1 =>
    N1 z d (IntKind.i64.wrap (b + (1 : Int))) w1) (
    LdL ⟨d, 0, none⟩ w fun x24_b x24_l x24_c =>
    diskm_blocks.Call x24_b x24_l x24_c w fun r25_b r25_l r25_c w2 =>
    Sts [.slice r25_b r25_l r25_c] ⟨d, 1, none⟩ 0 w2 fun w3 =>
    R (some ⟨d, 0, none⟩) w3)
theorem diskm_New.L1b_eq (z : ByteArray) (d : Nat) (b : Int) (w : World)  (N1 : ByteArray → Nat → Int → World → Prop) (R : Option Addr → World → Prop)  :
    (
  Bm (decide (b < (14 : Int))) (
    LdL ⟨d, 0, none⟩ w fun x16_b x16_l x16_c =>
    Pn x16_b fun a =>
    (0 ≤ b ∧ b < ((x16_l : Nat) : Int)) ∧
    Sts [.string z] (Addr.add a (b.toNat * 1)) 0 w fun w1 =>
    N1 z d (IntKind.i64.wrap (b + (1 : Int))) w1) (
    LdL ⟨d, 0, none⟩ w fun x24_b x24_l x24_c =>
    diskm_blocks.Call x24_b x24_l x24_c w fun r25_b r25_l r25_c w2 =>
    Sts [.slice r25_b r25_l r25_c] ⟨d, 1, none⟩ 0 w2 fun w3 =>
    R (some ⟨d, 0, none⟩) w3)) = kstep Tryz.prog 29 Tryz.f31.results.toList (Tryz.f31.body.getD .skip) (diskm_New.RV R) (kvc Tryz.prog 29 Tryz.f31.results.toList (Tryz.f31.body.getD .skip) (diskm_New.RV R) [([(0, [1, 1, 1, 0, 1, 0, 0]), (2, [1, 1, 1, 0, 1, 0, 0]), (1, [0]), (0, [1, 1, 1, 1])], fun σ w => dS (slotOf σ 1) fun z_ => dK (slotOf σ 2) fun d_ => dI .i64 (slotOf σ 3) fun b_ => N1 z_ d_ b_ w)] 2000) [(0, [1, 1, 1, 0, 1, 0, 0]), (2, [1, 1, 1, 0, 1, 0, 0]), (1, [0]), (0, [1, 1, 1, 1])] [(1, .string z), (2, .pointer (some ⟨d, 0, none⟩)), (3, .int .i64 b)] w := by kernel_rfl
theorem diskm_New.L1b_sound {R : Option Addr → World → Prop} {N1 : ByteArray → Nat → Int → World → Prop} (hN1 : ∀ z d b w, N1 z d b w → KW Tryz.prog 31 29 (diskm_New.RV R) ([(0, [1, 1, 1, 0, 1, 0, 0]), (2, [1, 1, 1, 0, 1, 0, 0]), (1, [0]), (0, [1, 1, 1, 1])].map (toItem (Tryz.f31.body.getD .skip))) [(1, .string z), (2, .pointer (some ⟨d, 0, none⟩)), (3, .int .i64 b)] w) (z : ByteArray) (d : Nat) (b : Int) (w : World) (h : diskm_New.L1b z d b w  N1 R) :
    KW Tryz.prog 31 29 (diskm_New.RV R) ([(0, [1, 1, 1, 0, 1, 0, 0]), (2, [1, 1, 1, 0, 1, 0, 0]), (1, [0]), (0, [1, 1, 1, 1])].map (toItem (Tryz.f31.body.getD .skip))) [(1, .string z), (2, .pointer (some ⟨d, 0, none⟩)), (3, .int .i64 b)] w := by
  exact block_spec Tryz.func31 Tryz.mixed (stops_cons (fun σ w h => by
      obtain ⟨z_, e0, h⟩ := dS_elim h
      obtain ⟨d_, e1, h⟩ := dK_elim h
      obtain ⟨b_, e2, h⟩ := dI_elim h
      exact (hN1 z_ d_ b_ w h).weaken (Sub.cons (Sub.cons (Sub.cons (Sub.nil _) e2) e1) e0)) stops_nil) (Eq.mp (diskm_New.L1b_eq z d b w  N1 R ) h)
def diskm_New.L1 (z : ByteArray) (d : Nat) (b : Int) (w : World)  (R : Option Addr → World → Prop) : Prop :=
  ∃ (I : Nat → ByteArray → Nat → Int → World → Prop) (m : Nat), I m z d b w ∧ ∀ m z d b w, I m z d b w → diskm_New.L1b z d b w  (fun z' d' b' w' => ∃ m', m' < m ∧ I m' z' d' b' w') R
theorem diskm_New.L1_sound {R : Option Addr → World → Prop}  (z : ByteArray) (d : Nat) (b : Int) (w : World) (h : diskm_New.L1 z d b w  R) :
    KW Tryz.prog 31 29 (diskm_New.RV R) ([(0, [1, 1, 1, 0, 1, 0, 0]), (2, [1, 1, 1, 0, 1, 0, 0]), (1, [0]), (0, [1, 1, 1, 1])].map (toItem (Tryz.f31.body.getD .skip))) [(1, .string z), (2, .pointer (some ⟨d, 0, none⟩)), (3, .int .i64 b)] w := by
  obtain ⟨I, m, hBase, hr⟩ := h
  refine KW.loop (fun m σ w => ∃ (z : ByteArray) (d : Nat) (b : Int), σ = [(1, .string z), (2, .pointer (some ⟨d, 0, none⟩)), (3, .int .i64 b)] ∧ I m z d b w) ?_ m _ w ⟨z, d, b, rfl, hBase⟩
  rintro m ih σ w ⟨z, d, b, rfl, hI⟩
  exact diskm_New.L1b_sound  (N1 := fun z' d' b' w' => ∃ m', m' < m ∧ I m' z' d' b' w') (fun z' d' b' w' hx => by obtain ⟨m', hlt, hI'⟩ := hx; exact ih m' hlt _ w' ⟨z', d', b', rfl, hI'⟩) z d b w (hr m z d b w hI)
def diskm_New.B0  (w : World)   (R : Option Addr → World → Prop) : Prop :=
  Make 5 (.int .u8 (0 : Int)) 1 1 (64 : Int) (64 : Int) w fun b4 w1 =>
  ToStr (some ⟨b4, 0, none⟩) 64 w1 fun s5 =>
  Make 9 (.string (ByteArray.mk #[])) 1 16 (14 : Int) (14 : Int) w1 fun b6 w2 =>
  New (.cells #[.slice (some ⟨b6, 0, none⟩) 14 14, .slice none 0 0, .slice none 0 0] 120) w2 fun b8 w3 =>
  diskm_New.L1 s5 b8 (0 : Int) w3  R
theorem diskm_New.B0_eq  (w : World)   (R : Option Addr → World → Prop) (sL1 : ByteArray → Nat → Int → World → Prop) :
    (
  Make 5 (.int .u8 (0 : Int)) 1 1 (64 : Int) (64 : Int) w fun b4 w1 =>
  ToStr (some ⟨b4, 0, none⟩) 64 w1 fun s5 =>
  Make 9 (.string (ByteArray.mk #[])) 1 16 (14 : Int) (14 : Int) w1 fun b6 w2 =>
  New (.cells #[.slice (some ⟨b6, 0, none⟩) 14 14, .slice none 0 0, .slice none 0 0] 120) w2 fun b8 w3 =>
  sL1 s5 b8 (0 : Int) w3) = kstep Tryz.prog 29 Tryz.f31.results.toList (Tryz.f31.body.getD .skip) (diskm_New.RV R) (kvc Tryz.prog 29 Tryz.f31.results.toList (Tryz.f31.body.getD .skip) (diskm_New.RV R) [([(0, [1, 1, 1, 0, 1, 0, 0]), (2, [1, 1, 1, 0, 1, 0, 0]), (1, [0]), (0, [1, 1, 1, 1])], fun σ w => dS (slotOf σ 1) fun z_ => dK (slotOf σ 2) fun d_ => dI .i64 (slotOf σ 3) fun b_ => sL1 z_ d_ b_ w)] 2000) [(0, [])] [] w := by kernel_rfl
theorem diskm_New.B0_sound {R : Option Addr → World → Prop}   (w : World) (h : diskm_New.B0  w   R) :
    KW Tryz.prog 31 29 (diskm_New.RV R) ([(0, [])].map (toItem (Tryz.f31.body.getD .skip))) [] w := by
  exact block_spec Tryz.func31 Tryz.mixed (stops_cons (fun σ w h => by
      obtain ⟨z_, e0, h⟩ := dS_elim h
      obtain ⟨d_, e1, h⟩ := dK_elim h
      obtain ⟨b_, e2, h⟩ := dI_elim h
      exact (diskm_New.L1_sound  z_ d_ b_ w h).weaken (Sub.cons (Sub.cons (Sub.cons (Sub.nil _) e2) e1) e0)) stops_nil) (Eq.mp (diskm_New.B0_eq  w   R (fun z_ d_ b_ w => diskm_New.L1 z_ d_ b_ w  R)) h)
theorem diskm_New.sound  (w : World) (R : Option Addr → World → Prop) (h : diskm_New.B0  w R) : diskm_New.Call  w R := by
  have hc := calls_of_block (args := #[]) Tryz.func31 (body := (Tryz.f31.body.getD .skip)) (by kernel_rfl) (by kernel_rfl) (args_slot _) (diskm_New.B0_sound  w h)
  exact hc.mono fun e w' he => by
    obtain ⟨v, rfl, hv⟩ := he
    exact diskm_New.RV_elim hv
def nodelaw_raise.B0 (d : Option Addr) (id0 : Int) (w : World)   (R : Option Addr → Option Addr → Int → World → Prop) : Prop :=
  New (.cells #[.pointer none, .pointer none, .int .i64 (0 : Int)] 30) w fun b4 w1 =>
  store_Open.Call d w1 fun r10 w2 =>
  rlog_Open.Call r10 w2 fun r12 w3 =>
  elect_New.Call id0 w3 fun r14 w4 =>
  sync_Open.Call r12 r14 w4 fun r17 w5 =>
  Sts [.pointer d, .pointer r17, .int .i64 id0] ⟨b4, 0, none⟩ 0 w5 fun w6 =>
  LdP ⟨b4, 0, none⟩ w6 fun r_0 =>
  LdP ⟨b4, 1, none⟩ w6 fun r_1 =>
  LdI .i64 ⟨b4, 2, none⟩ w6 fun r_2 =>
  R r_0 r_1 r_2 w6
theorem nodelaw_raise.B0_eq (d : Option Addr) (id0 : Int) (w : World)   (R : Option Addr → Option Addr → Int → World → Prop)  :
    (
  New (.cells #[.pointer none, .pointer none, .int .i64 (0 : Int)] 30) w fun b4 w1 =>
  store_Open.Call d w1 fun r10 w2 =>
  rlog_Open.Call r10 w2 fun r12 w3 =>
  elect_New.Call id0 w3 fun r14 w4 =>
  sync_Open.Call r12 r14 w4 fun r17 w5 =>
  Sts [.pointer d, .pointer r17, .int .i64 id0] ⟨b4, 0, none⟩ 0 w5 fun w6 =>
  LdP ⟨b4, 0, none⟩ w6 fun r_0 =>
  LdP ⟨b4, 1, none⟩ w6 fun r_1 =>
  LdI .i64 ⟨b4, 2, none⟩ w6 fun r_2 =>
  R r_0 r_1 r_2 w6) = kstep Tryz.prog 22 Tryz.f32.results.toList (Tryz.f32.body.getD .skip) (nodelaw_raise.RV R) (kvc Tryz.prog 22 Tryz.f32.results.toList (Tryz.f32.body.getD .skip) (nodelaw_raise.RV R) [] 2000) [(0, [])] [(0, .pointer d), (1, .int .i64 id0)] w := by kernel_rfl
theorem nodelaw_raise.B0_sound {R : Option Addr → Option Addr → Int → World → Prop}  (d : Option Addr) (id0 : Int) (w : World) (h : nodelaw_raise.B0 d id0 w   R) :
    KW Tryz.prog 32 22 (nodelaw_raise.RV R) ([(0, [])].map (toItem (Tryz.f32.body.getD .skip))) [(0, .pointer d), (1, .int .i64 id0)] w := by
  exact block_spec Tryz.func32 Tryz.mixed stops_nil (Eq.mp (nodelaw_raise.B0_eq d id0 w   R ) h)
theorem nodelaw_raise.sound (d : Option Addr) (id0 : Int) (w : World) (R : Option Addr → Option Addr → Int → World → Prop) (h : nodelaw_raise.B0 d id0 w R) : nodelaw_raise.Call d id0 w R := by
  have hc := calls_of_block (args := #[.pointer d, .int .i64 id0]) Tryz.func32 (body := (Tryz.f32.body.getD .skip)) (by kernel_rfl) (by kernel_rfl) (args_slot _) (nodelaw_raise.B0_sound d id0 w h)
  exact hc.mono fun e w' he => by
    obtain ⟨v, rfl, hv⟩ := he
    exact nodelaw_raise.RV_elim hv
def syncm_New.B0 (id0 : Int) (w : World)   (R : Option Addr → World → Prop) : Prop :=
  rlogm_New.Call  w fun r5 w1 =>
  electm_New.Call id0 w1 fun r7 w2 =>
  syncm_open.Call r5 r7 w2 fun r10 w3 =>
  R r10 w3
theorem syncm_New.B0_eq (id0 : Int) (w : World)   (R : Option Addr → World → Prop)  :
    (
  rlogm_New.Call  w fun r5 w1 =>
  electm_New.Call id0 w1 fun r7 w2 =>
  syncm_open.Call r5 r7 w2 fun r10 w3 =>
  R r10 w3) = kstep Tryz.prog 11 Tryz.f33.results.toList (Tryz.f33.body.getD .skip) (syncm_New.RV R) (kvc Tryz.prog 11 Tryz.f33.results.toList (Tryz.f33.body.getD .skip) (syncm_New.RV R) [] 2000) [(0, [])] [(0, .int .i64 id0)] w := by kernel_rfl
theorem syncm_New.B0_sound {R : Option Addr → World → Prop}  (id0 : Int) (w : World) (h : syncm_New.B0 id0 w   R) :
    KW Tryz.prog 33 11 (syncm_New.RV R) ([(0, [])].map (toItem (Tryz.f33.body.getD .skip))) [(0, .int .i64 id0)] w := by
  exact block_spec Tryz.func33 Tryz.mixed stops_nil (Eq.mp (syncm_New.B0_eq id0 w   R ) h)
theorem syncm_New.sound (id0 : Int) (w : World) (R : Option Addr → World → Prop) (h : syncm_New.B0 id0 w R) : syncm_New.Call id0 w R := by
  have hc := calls_of_block (args := #[.int .i64 id0]) Tryz.func33 (body := (Tryz.f33.body.getD .skip)) (by kernel_rfl) (by kernel_rfl) (args_slot _) (syncm_New.B0_sound id0 w h)
  exact hc.mono fun e w' he => by
    obtain ⟨v, rfl, hv⟩ := he
    exact syncm_New.RV_elim hv
def kvm_New.B0  (w : World)   (R : Option Addr → World → Prop) : Prop :=
  New (.cells #[.int .i64 (0 : Int), .string (ByteArray.mk #[]), .string (ByteArray.mk #[]), .string (ByteArray.mk #[]), .string (ByteArray.mk #[]), .string (ByteArray.mk #[]), .string (ByteArray.mk #[]), .string (ByteArray.mk #[]), .string (ByteArray.mk #[]), .int .i64 (0 : Int), .int .i64 (0 : Int), .int .i64 (0 : Int), .int .i64 (0 : Int), .string (ByteArray.mk #[]), .int .i64 (0 : Int), .string (ByteArray.mk #[]), .int .i64 (0 : Int), .string (ByteArray.mk #[])] 137) w fun b2 w1 =>
  R (some ⟨b2, 0, none⟩) w1
theorem kvm_New.B0_eq  (w : World)   (R : Option Addr → World → Prop)  :
    (
  New (.cells #[.int .i64 (0 : Int), .string (ByteArray.mk #[]), .string (ByteArray.mk #[]), .string (ByteArray.mk #[]), .string (ByteArray.mk #[]), .string (ByteArray.mk #[]), .string (ByteArray.mk #[]), .string (ByteArray.mk #[]), .string (ByteArray.mk #[]), .int .i64 (0 : Int), .int .i64 (0 : Int), .int .i64 (0 : Int), .int .i64 (0 : Int), .string (ByteArray.mk #[]), .int .i64 (0 : Int), .string (ByteArray.mk #[]), .int .i64 (0 : Int), .string (ByteArray.mk #[])] 137) w fun b2 w1 =>
  R (some ⟨b2, 0, none⟩) w1) = kstep Tryz.prog 3 Tryz.f34.results.toList (Tryz.f34.body.getD .skip) (kvm_New.RV R) (kvc Tryz.prog 3 Tryz.f34.results.toList (Tryz.f34.body.getD .skip) (kvm_New.RV R) [] 2000) [(0, [])] [] w := by kernel_rfl
theorem kvm_New.B0_sound {R : Option Addr → World → Prop}   (w : World) (h : kvm_New.B0  w   R) :
    KW Tryz.prog 34 3 (kvm_New.RV R) ([(0, [])].map (toItem (Tryz.f34.body.getD .skip))) [] w := by
  exact block_spec Tryz.func34 Tryz.mixed stops_nil (Eq.mp (kvm_New.B0_eq  w   R ) h)
theorem kvm_New.sound  (w : World) (R : Option Addr → World → Prop) (h : kvm_New.B0  w R) : kvm_New.Call  w R := by
  have hc := calls_of_block (args := #[]) Tryz.func34 (body := (Tryz.f34.body.getD .skip)) (by kernel_rfl) (by kernel_rfl) (args_slot _) (kvm_New.B0_sound  w h)
  exact hc.mono fun e w' he => by
    obtain ⟨v, rfl, hv⟩ := he
    exact kvm_New.RV_elim hv
def nodem_open.B0 (sy ks : Option Addr) (w : World)   (R : Option Addr → World → Prop) : Prop :=
  New (.cells #[.pointer sy, .pointer ks, .int .i64 (0 : Int), .bool false, .bool false, .bool false, .int .i64 (0 : Int), .int .i64 (0 : Int), .int .i64 (0 : Int), .int .i64 (0 : Int), .int .i64 (0 : Int), .int .i64 (0 : Int)] 83) w fun b9 w1 =>
  nodem_Node_catchUp.Call (some ⟨b9, 0, none⟩) w1 fun w2 =>
  R (some ⟨b9, 0, none⟩) w2
theorem nodem_open.B0_eq (sy ks : Option Addr) (w : World)   (R : Option Addr → World → Prop)  :
    (
  New (.cells #[.pointer sy, .pointer ks, .int .i64 (0 : Int), .bool false, .bool false, .bool false, .int .i64 (0 : Int), .int .i64 (0 : Int), .int .i64 (0 : Int), .int .i64 (0 : Int), .int .i64 (0 : Int), .int .i64 (0 : Int)] 83) w fun b9 w1 =>
  nodem_Node_catchUp.Call (some ⟨b9, 0, none⟩) w1 fun w2 =>
  R (some ⟨b9, 0, none⟩) w2) = kstep Tryz.prog 13 Tryz.f35.results.toList (Tryz.f35.body.getD .skip) (nodem_open.RV R) (kvc Tryz.prog 13 Tryz.f35.results.toList (Tryz.f35.body.getD .skip) (nodem_open.RV R) [] 2000) [(0, [])] [(0, .pointer sy), (1, .pointer ks)] w := by kernel_rfl
theorem nodem_open.B0_sound {R : Option Addr → World → Prop}  (sy ks : Option Addr) (w : World) (h : nodem_open.B0 sy ks w   R) :
    KW Tryz.prog 35 13 (nodem_open.RV R) ([(0, [])].map (toItem (Tryz.f35.body.getD .skip))) [(0, .pointer sy), (1, .pointer ks)] w := by
  exact block_spec Tryz.func35 Tryz.mixed stops_nil (Eq.mp (nodem_open.B0_eq sy ks w   R ) h)
theorem nodem_open.sound (sy ks : Option Addr) (w : World) (R : Option Addr → World → Prop) (h : nodem_open.B0 sy ks w R) : nodem_open.Call sy ks w R := by
  have hc := calls_of_block (args := #[.pointer sy, .pointer ks]) Tryz.func35 (body := (Tryz.f35.body.getD .skip)) (by kernel_rfl) (by kernel_rfl) (args_slot _) (nodem_open.B0_sound sy ks w h)
  exact hc.mono fun e w' he => by
    obtain ⟨v, rfl, hv⟩ := he
    exact nodem_open.RV_elim hv
def diskm_Disk_Steps.B0 (d : Option Addr) (w : World)   (R : Int → World → Prop) : Prop :=
  Pn d fun a =>
  LdL (a.add 2) w fun x6_b x6_l x6_c =>
  R ((x6_l : Nat) : Int) w
theorem diskm_Disk_Steps.B0_eq (d : Option Addr) (w : World)   (R : Int → World → Prop)  :
    (
  Pn d fun a =>
  LdL (a.add 2) w fun x6_b x6_l x6_c =>
  R ((x6_l : Nat) : Int) w) = kstep Tryz.prog 8 Tryz.f36.results.toList (Tryz.f36.body.getD .skip) (diskm_Disk_Steps.RV R) (kvc Tryz.prog 8 Tryz.f36.results.toList (Tryz.f36.body.getD .skip) (diskm_Disk_Steps.RV R) [] 2000) [(0, [])] [(0, .pointer d)] w := by kernel_rfl
theorem diskm_Disk_Steps.B0_sound {R : Int → World → Prop}  (d : Option Addr) (w : World) (h : diskm_Disk_Steps.B0 d w   R) :
    KW Tryz.prog 36 8 (diskm_Disk_Steps.RV R) ([(0, [])].map (toItem (Tryz.f36.body.getD .skip))) [(0, .pointer d)] w := by
  exact block_spec Tryz.func36 Tryz.mixed stops_nil (Eq.mp (diskm_Disk_Steps.B0_eq d w   R ) h)
theorem diskm_Disk_Steps.sound (d : Option Addr) (w : World) (R : Int → World → Prop) (h : diskm_Disk_Steps.B0 d w R) : diskm_Disk_Steps.Call d w R := by
  have hc := calls_of_block (args := #[.pointer d]) Tryz.func36 (body := (Tryz.f36.body.getD .skip)) (by kernel_rfl) (by kernel_rfl) (args_slot _) (diskm_Disk_Steps.B0_sound d w h)
  exact hc.mono fun e w' he => by
    obtain ⟨v, rfl, hv⟩ := he
    exact diskm_Disk_Steps.RV_elim hv
def diskm_Disk_Mark.B0 (d : Option Addr) (w : World)   (R : World → Prop) : Prop :=
  Pn d fun a =>
  LdL a w fun x6_b x6_l x6_c =>
  diskm_blocks.Call x6_b x6_l x6_c w fun r7_b r7_l r7_c w1 =>
  Pn d fun a_1 =>
  Sts [.slice r7_b r7_l r7_c] (a_1.add 1) 0 w1 fun w2 =>
  Pn d fun a_2 =>
  Sts [.slice none 0 0] (a_2.add 2) 0 w2 fun w3 =>
  R  w3
theorem diskm_Disk_Mark.B0_eq (d : Option Addr) (w : World)   (R : World → Prop)  :
    (
  Pn d fun a =>
  LdL a w fun x6_b x6_l x6_c =>
  diskm_blocks.Call x6_b x6_l x6_c w fun r7_b r7_l r7_c w1 =>
  Pn d fun a_1 =>
  Sts [.slice r7_b r7_l r7_c] (a_1.add 1) 0 w1 fun w2 =>
  Pn d fun a_2 =>
  Sts [.slice none 0 0] (a_2.add 2) 0 w2 fun w3 =>
  R  w3) = kstep Tryz.prog 13 Tryz.f37.results.toList (Tryz.f37.body.getD .skip) (diskm_Disk_Mark.RV R) (kvc Tryz.prog 13 Tryz.f37.results.toList (Tryz.f37.body.getD .skip) (diskm_Disk_Mark.RV R) [] 2000) [(0, [])] [(0, .pointer d)] w := by kernel_rfl
theorem diskm_Disk_Mark.B0_sound {R : World → Prop}  (d : Option Addr) (w : World) (h : diskm_Disk_Mark.B0 d w   R) :
    KW Tryz.prog 37 13 (diskm_Disk_Mark.RV R) ([(0, [])].map (toItem (Tryz.f37.body.getD .skip))) [(0, .pointer d)] w := by
  exact block_spec Tryz.func37 Tryz.mixed stops_nil (Eq.mp (diskm_Disk_Mark.B0_eq d w   R ) h)
theorem diskm_Disk_Mark.sound (d : Option Addr) (w : World) (R : World → Prop) (h : diskm_Disk_Mark.B0 d w R) : diskm_Disk_Mark.Call d w R := by
  have hc := calls_of_block (args := #[.pointer d]) Tryz.func37 (body := (Tryz.f37.body.getD .skip)) (by kernel_rfl) (by kernel_rfl) (args_slot _) (diskm_Disk_Mark.B0_sound d w h)
  exact hc.mono fun e w' he => by
    obtain ⟨v, rfl, hv⟩ := he
    exact diskm_Disk_Mark.RV_elim hv
def syncm_Sync_Mark.B0 (s : Option Addr) (w : World)   (R : World → Prop) : Prop :=
  Pn s fun a =>
  LdP a w fun x5 =>
  rlogm_Log_Mark.Call x5 w fun w1 =>
  R  w1
theorem syncm_Sync_Mark.B0_eq (s : Option Addr) (w : World)   (R : World → Prop)  :
    (
  Pn s fun a =>
  LdP a w fun x5 =>
  rlogm_Log_Mark.Call x5 w fun w1 =>
  R  w1) = kstep Tryz.prog 7 Tryz.f38.results.toList (Tryz.f38.body.getD .skip) (syncm_Sync_Mark.RV R) (kvc Tryz.prog 7 Tryz.f38.results.toList (Tryz.f38.body.getD .skip) (syncm_Sync_Mark.RV R) [] 2000) [(0, [])] [(0, .pointer s)] w := by kernel_rfl
theorem syncm_Sync_Mark.B0_sound {R : World → Prop}  (s : Option Addr) (w : World) (h : syncm_Sync_Mark.B0 s w   R) :
    KW Tryz.prog 38 7 (syncm_Sync_Mark.RV R) ([(0, [])].map (toItem (Tryz.f38.body.getD .skip))) [(0, .pointer s)] w := by
  exact block_spec Tryz.func38 Tryz.mixed stops_nil (Eq.mp (syncm_Sync_Mark.B0_eq s w   R ) h)
theorem syncm_Sync_Mark.sound (s : Option Addr) (w : World) (R : World → Prop) (h : syncm_Sync_Mark.B0 s w R) : syncm_Sync_Mark.Call s w R := by
  have hc := calls_of_block (args := #[.pointer s]) Tryz.func38 (body := (Tryz.f38.body.getD .skip)) (by kernel_rfl) (by kernel_rfl) (args_slot _) (syncm_Sync_Mark.B0_sound s w h)
  exact hc.mono fun e w' he => by
    obtain ⟨v, rfl, hv⟩ := he
    exact syncm_Sync_Mark.RV_elim hv
def node_Node_Tick.B0 (n : Option Addr) (w : World)   (R : Int → Option Addr → Nat → Nat → Option Addr → Nat → Nat → World → Prop) : Prop :=
  New (.cells #[.int .i64 (0 : Int), .slice none 0 0, .slice none 0 0] 42) w fun b2 w1 =>
  Pn n fun a =>
  LdP a w1 fun x7 =>
  sync_Sync_Tick.Call x7 w1 fun r8_b r8_l r8_c w2 =>
  node_Node_after.Call n r8_b r8_l r8_c w2 fun r11_0 r11_1_b r11_1_l r11_1_c r11_2_b r11_2_l r11_2_c w3 =>
  Sts [.int .i64 r11_0, .slice r11_1_b r11_1_l r11_1_c, .slice r11_2_b r11_2_l r11_2_c] ⟨b2, 0, none⟩ 0 w3 fun w4 =>
  LdI .i64 ⟨b2, 0, none⟩ w4 fun r_0 =>
  LdL ⟨b2, 1, none⟩ w4 fun r_1_b r_1_l r_1_c =>
  LdL ⟨b2, 2, none⟩ w4 fun r_2_b r_2_l r_2_c =>
  R r_0 r_1_b r_1_l r_1_c r_2_b r_2_l r_2_c w4
theorem node_Node_Tick.B0_eq (n : Option Addr) (w : World)   (R : Int → Option Addr → Nat → Nat → Option Addr → Nat → Nat → World → Prop)  :
    (
  New (.cells #[.int .i64 (0 : Int), .slice none 0 0, .slice none 0 0] 42) w fun b2 w1 =>
  Pn n fun a =>
  LdP a w1 fun x7 =>
  sync_Sync_Tick.Call x7 w1 fun r8_b r8_l r8_c w2 =>
  node_Node_after.Call n r8_b r8_l r8_c w2 fun r11_0 r11_1_b r11_1_l r11_1_c r11_2_b r11_2_l r11_2_c w3 =>
  Sts [.int .i64 r11_0, .slice r11_1_b r11_1_l r11_1_c, .slice r11_2_b r11_2_l r11_2_c] ⟨b2, 0, none⟩ 0 w3 fun w4 =>
  LdI .i64 ⟨b2, 0, none⟩ w4 fun r_0 =>
  LdL ⟨b2, 1, none⟩ w4 fun r_1_b r_1_l r_1_c =>
  LdL ⟨b2, 2, none⟩ w4 fun r_2_b r_2_l r_2_c =>
  R r_0 r_1_b r_1_l r_1_c r_2_b r_2_l r_2_c w4) = kstep Tryz.prog 12 Tryz.f39.results.toList (Tryz.f39.body.getD .skip) (node_Node_Tick.RV R) (kvc Tryz.prog 12 Tryz.f39.results.toList (Tryz.f39.body.getD .skip) (node_Node_Tick.RV R) [] 2000) [(0, [])] [(0, .pointer n)] w := by kernel_rfl
theorem node_Node_Tick.B0_sound {R : Int → Option Addr → Nat → Nat → Option Addr → Nat → Nat → World → Prop}  (n : Option Addr) (w : World) (h : node_Node_Tick.B0 n w   R) :
    KW Tryz.prog 39 12 (node_Node_Tick.RV R) ([(0, [])].map (toItem (Tryz.f39.body.getD .skip))) [(0, .pointer n)] w := by
  exact block_spec Tryz.func39 Tryz.mixed stops_nil (Eq.mp (node_Node_Tick.B0_eq n w   R ) h)
theorem node_Node_Tick.sound (n : Option Addr) (w : World) (R : Int → Option Addr → Nat → Nat → Option Addr → Nat → Nat → World → Prop) (h : node_Node_Tick.B0 n w R) : node_Node_Tick.Call n w R := by
  have hc := calls_of_block (args := #[.pointer n]) Tryz.func39 (body := (Tryz.f39.body.getD .skip)) (by kernel_rfl) (by kernel_rfl) (args_slot _) (node_Node_Tick.B0_sound n w h)
  exact hc.mono fun e w' he => by
    obtain ⟨v, rfl, hv⟩ := he
    exact node_Node_Tick.RV_elim hv
def node_Node_Receive.B1 (n : Option Addr) (t4 m0 : Nat) (t30 : Bool) (w : World)   (R : Int → Option Addr → Nat → Nat → Option Addr → Nat → Nat → World → Prop) : Prop :=
  Bm t30 (
    Sts [.int .i64 (12 : Int), .slice none 0 0, .slice none 0 0] ⟨t4, 0, none⟩ 0 w fun w1 =>
    LdI .i64 ⟨t4, 0, none⟩ w1 fun r_0 =>
    LdL ⟨t4, 1, none⟩ w1 fun r_1_b r_1_l r_1_c =>
    LdL ⟨t4, 2, none⟩ w1 fun r_2_b r_2_l r_2_c =>
    R r_0 r_1_b r_1_l r_1_c r_2_b r_2_l r_2_c w1) (
    Pn n fun a =>
    LdP a w.drew fun x35 =>
    LdI .i64 ⟨m0, 0, none⟩ w.drew fun x36_0 =>
    LdI .i64 ⟨m0, 1, none⟩ w.drew fun x36_1 =>
    LdI .i64 ⟨m0, 2, none⟩ w.drew fun x36_2 =>
    LdI .i64 ⟨m0, 3, none⟩ w.drew fun x36_3 =>
    LdI .i64 ⟨m0, 4, none⟩ w.drew fun x36_4 =>
    LdI .i64 ⟨m0, 5, none⟩ w.drew fun x36_5 =>
    LdI .i64 ⟨m0, 6, none⟩ w.drew fun x36_6 =>
    LdB ⟨m0, 7, none⟩ w.drew fun x36_7 =>
    LdL ⟨m0, 8, none⟩ w.drew fun x36_8_b x36_8_l x36_8_c =>
    LdS ⟨m0, 9, none⟩ w.drew fun x36_9 =>
    sync_Sync_Step.Call x35 x36_0 x36_1 x36_2 x36_3 x36_4 x36_5 x36_6 x36_7 x36_8_b x36_8_l x36_8_c x36_9 w.drew fun r37_b r37_l r37_c w2 =>
    node_Node_after.Call n r37_b r37_l r37_c w2 fun r40_0 r40_1_b r40_1_l r40_1_c r40_2_b r40_2_l r40_2_c w3 =>
    Sts [.int .i64 r40_0, .slice r40_1_b r40_1_l r40_1_c, .slice r40_2_b r40_2_l r40_2_c] ⟨t4, 0, none⟩ 0 w3 fun w4 =>
    LdI .i64 ⟨t4, 0, none⟩ w4 fun r_0_1 =>
    LdL ⟨t4, 1, none⟩ w4 fun r_1_b_1 r_1_l_1 r_1_c_1 =>
    LdL ⟨t4, 2, none⟩ w4 fun r_2_b_1 r_2_l_1 r_2_c_1 =>
    R r_0_1 r_1_b_1 r_1_l_1 r_1_c_1 r_2_b_1 r_2_l_1 r_2_c_1 w4)
theorem node_Node_Receive.B1_eq (n : Option Addr) (t4 m0 : Nat) (t30 : Bool) (w : World)   (R : Int → Option Addr → Nat → Nat → Option Addr → Nat → Nat → World → Prop)  :
    (
  Bm t30 (
    Sts [.int .i64 (12 : Int), .slice none 0 0, .slice none 0 0] ⟨t4, 0, none⟩ 0 w fun w1 =>
    LdI .i64 ⟨t4, 0, none⟩ w1 fun r_0 =>
    LdL ⟨t4, 1, none⟩ w1 fun r_1_b r_1_l r_1_c =>
    LdL ⟨t4, 2, none⟩ w1 fun r_2_b r_2_l r_2_c =>
    R r_0 r_1_b r_1_l r_1_c r_2_b r_2_l r_2_c w1) (
    Pn n fun a =>
    LdP a w.drew fun x35 =>
    LdI .i64 ⟨m0, 0, none⟩ w.drew fun x36_0 =>
    LdI .i64 ⟨m0, 1, none⟩ w.drew fun x36_1 =>
    LdI .i64 ⟨m0, 2, none⟩ w.drew fun x36_2 =>
    LdI .i64 ⟨m0, 3, none⟩ w.drew fun x36_3 =>
    LdI .i64 ⟨m0, 4, none⟩ w.drew fun x36_4 =>
    LdI .i64 ⟨m0, 5, none⟩ w.drew fun x36_5 =>
    LdI .i64 ⟨m0, 6, none⟩ w.drew fun x36_6 =>
    LdB ⟨m0, 7, none⟩ w.drew fun x36_7 =>
    LdL ⟨m0, 8, none⟩ w.drew fun x36_8_b x36_8_l x36_8_c =>
    LdS ⟨m0, 9, none⟩ w.drew fun x36_9 =>
    sync_Sync_Step.Call x35 x36_0 x36_1 x36_2 x36_3 x36_4 x36_5 x36_6 x36_7 x36_8_b x36_8_l x36_8_c x36_9 w.drew fun r37_b r37_l r37_c w2 =>
    node_Node_after.Call n r37_b r37_l r37_c w2 fun r40_0 r40_1_b r40_1_l r40_1_c r40_2_b r40_2_l r40_2_c w3 =>
    Sts [.int .i64 r40_0, .slice r40_1_b r40_1_l r40_1_c, .slice r40_2_b r40_2_l r40_2_c] ⟨t4, 0, none⟩ 0 w3 fun w4 =>
    LdI .i64 ⟨t4, 0, none⟩ w4 fun r_0_1 =>
    LdL ⟨t4, 1, none⟩ w4 fun r_1_b_1 r_1_l_1 r_1_c_1 =>
    LdL ⟨t4, 2, none⟩ w4 fun r_2_b_1 r_2_l_1 r_2_c_1 =>
    R r_0_1 r_1_b_1 r_1_l_1 r_1_c_1 r_2_b_1 r_2_l_1 r_2_c_1 w4)) = kstep Tryz.prog 41 Tryz.f40.results.toList (Tryz.f40.body.getD .skip) (node_Node_Receive.RV R) (kvc Tryz.prog 41 Tryz.f40.results.toList (Tryz.f40.body.getD .skip) (node_Node_Receive.RV R) [] 2000) [(0, [1, 1, 0, 1]), (0, [1, 1, 1])] [(0, .pointer n), (4, .pointer (some ⟨t4, 0, none⟩)), (5, .pointer (some ⟨m0, 0, none⟩)), (30, .bool t30)] w := by kernel_rfl
theorem node_Node_Receive.B1_sound {R : Int → Option Addr → Nat → Nat → Option Addr → Nat → Nat → World → Prop}  (n : Option Addr) (t4 m0 : Nat) (t30 : Bool) (w : World) (h : node_Node_Receive.B1 n t4 m0 t30 w   R) :
    KW Tryz.prog 40 41 (node_Node_Receive.RV R) ([(0, [1, 1, 0, 1]), (0, [1, 1, 1])].map (toItem (Tryz.f40.body.getD .skip))) [(0, .pointer n), (4, .pointer (some ⟨t4, 0, none⟩)), (5, .pointer (some ⟨m0, 0, none⟩)), (30, .bool t30)] w := by
  exact block_spec Tryz.func40 Tryz.mixed stops_nil (Eq.mp (node_Node_Receive.B1_eq n t4 m0 t30 w   R ) h)
def node_Node_Receive.B0 (n : Option Addr) (raw : ByteArray) (w : World)   (R : Int → Option Addr → Nat → Nat → Option Addr → Nat → Nat → World → Prop) : Prop :=
  New (.cells #[.int .i64 (0 : Int), .slice none 0 0, .slice none 0 0] 42) w fun b4 w1 =>
  node_decode.Call raw w1 fun r10_0_0 r10_0_1 r10_0_2 r10_0_3 r10_0_4 r10_0_5 r10_0_6 r10_0_7 r10_0_8_b r10_0_8_l r10_0_8_c r10_0_9 r10_1 w2 =>
  New (.cells #[.int .i64 (0 : Int), .int .i64 (0 : Int), .int .i64 (0 : Int), .int .i64 (0 : Int), .int .i64 (0 : Int), .int .i64 (0 : Int), .int .i64 (0 : Int), .bool false, .slice none 0 0, .string (ByteArray.mk #[])] 101) w2 fun m0_ w3 =>
  Sts [.int .i64 r10_0_0, .int .i64 r10_0_1, .int .i64 r10_0_2, .int .i64 r10_0_3, .int .i64 r10_0_4, .int .i64 r10_0_5, .int .i64 r10_0_6, .bool r10_0_7, .slice r10_0_8_b r10_0_8_l r10_0_8_c, .string r10_0_9] ⟨m0_, 0, none⟩ 0 w3 fun w4 =>
  Bm (!r10_1) (
    node_Node_Receive.B1 n b4 m0_ true w4.drew  R) (
    LdI .i64 ⟨m0_, 2, none⟩ w4.drew fun x17 =>
    Pn n fun a =>
    LdI .i64 (a.add 2) w4.drew fun x21 =>
    Bm (x17 != x21) (
      node_Node_Receive.B1 n b4 m0_ true w4.drew  R) (
      LdI .i64 ⟨m0_, 1, none⟩ w4.drew fun x26 =>
      LdI .i64 ⟨m0_, 2, none⟩ w4.drew fun x28 =>
      node_Node_Receive.B1 n b4 m0_ (x26 == x28) w4.drew  R))
theorem node_Node_Receive.B0_eq (n : Option Addr) (raw : ByteArray) (w : World)   (R : Int → Option Addr → Nat → Nat → Option Addr → Nat → Nat → World → Prop) (sB1 : Option Addr → Nat → Nat → Bool → World → Prop) :
    (
  New (.cells #[.int .i64 (0 : Int), .slice none 0 0, .slice none 0 0] 42) w fun b4 w1 =>
  node_decode.Call raw w1 fun r10_0_0 r10_0_1 r10_0_2 r10_0_3 r10_0_4 r10_0_5 r10_0_6 r10_0_7 r10_0_8_b r10_0_8_l r10_0_8_c r10_0_9 r10_1 w2 =>
  New (.cells #[.int .i64 (0 : Int), .int .i64 (0 : Int), .int .i64 (0 : Int), .int .i64 (0 : Int), .int .i64 (0 : Int), .int .i64 (0 : Int), .int .i64 (0 : Int), .bool false, .slice none 0 0, .string (ByteArray.mk #[])] 101) w2 fun m0_ w3 =>
  Sts [.int .i64 r10_0_0, .int .i64 r10_0_1, .int .i64 r10_0_2, .int .i64 r10_0_3, .int .i64 r10_0_4, .int .i64 r10_0_5, .int .i64 r10_0_6, .bool r10_0_7, .slice r10_0_8_b r10_0_8_l r10_0_8_c, .string r10_0_9] ⟨m0_, 0, none⟩ 0 w3 fun w4 =>
  Bm (!r10_1) (
    sB1 n b4 m0_ true w4.drew) (
    LdI .i64 ⟨m0_, 2, none⟩ w4.drew fun x17 =>
    Pn n fun a =>
    LdI .i64 (a.add 2) w4.drew fun x21 =>
    Bm (x17 != x21) (
      sB1 n b4 m0_ true w4.drew) (
      LdI .i64 ⟨m0_, 1, none⟩ w4.drew fun x26 =>
      LdI .i64 ⟨m0_, 2, none⟩ w4.drew fun x28 =>
      sB1 n b4 m0_ (x26 == x28) w4.drew))) = kstep Tryz.prog 41 Tryz.f40.results.toList (Tryz.f40.body.getD .skip) (node_Node_Receive.RV R) (kvc Tryz.prog 41 Tryz.f40.results.toList (Tryz.f40.body.getD .skip) (node_Node_Receive.RV R) [([(0, [1, 1, 0, 1]), (0, [1, 1, 1])], fun σ w => dP (slotOf σ 0) fun n_ => dK (slotOf σ 4) fun t4_ => dK (slotOf σ 5) fun m0_ => dB (slotOf σ 30) fun t30_ => sB1 n_ t4_ m0_ t30_ w)] 2000) [(0, [])] [(0, .pointer n), (1, .string raw)] w := by kernel_rfl
theorem node_Node_Receive.B0_sound {R : Int → Option Addr → Nat → Nat → Option Addr → Nat → Nat → World → Prop}  (n : Option Addr) (raw : ByteArray) (w : World) (h : node_Node_Receive.B0 n raw w   R) :
    KW Tryz.prog 40 41 (node_Node_Receive.RV R) ([(0, [])].map (toItem (Tryz.f40.body.getD .skip))) [(0, .pointer n), (1, .string raw)] w := by
  exact block_spec Tryz.func40 Tryz.mixed (stops_cons (fun σ w h => by
      obtain ⟨n_, e0, h⟩ := dP_elim h
      obtain ⟨t4_, e1, h⟩ := dK_elim h
      obtain ⟨m0_, e2, h⟩ := dK_elim h
      obtain ⟨t30_, e3, h⟩ := dB_elim h
      exact (node_Node_Receive.B1_sound  n_ t4_ m0_ t30_ w h).weaken (Sub.cons (Sub.cons (Sub.cons (Sub.cons (Sub.nil _) e3) e2) e1) e0)) stops_nil) (Eq.mp (node_Node_Receive.B0_eq n raw w   R (fun n_ t4_ m0_ t30_ w => node_Node_Receive.B1 n_ t4_ m0_ t30_ w  R)) h)
theorem node_Node_Receive.sound (n : Option Addr) (raw : ByteArray) (w : World) (R : Int → Option Addr → Nat → Nat → Option Addr → Nat → Nat → World → Prop) (h : node_Node_Receive.B0 n raw w R) : node_Node_Receive.Call n raw w R := by
  have hc := calls_of_block (args := #[.pointer n, .string raw]) Tryz.func40 (body := (Tryz.f40.body.getD .skip)) (by kernel_rfl) (by kernel_rfl) (args_slot _) (node_Node_Receive.B0_sound n raw w h)
  exact hc.mono fun e w' he => by
    obtain ⟨v, rfl, hv⟩ := he
    exact node_Node_Receive.RV_elim hv
def nodelaw_CmdOf.B0 (o_0 o_1 o_2 o_3 : Int) (o_4 o_5 : ByteArray) (w : World)   (R : Int → Int → Int → ByteArray → ByteArray → ByteArray → World → Prop) : Prop :=
  New (.cells #[.int .i64 o_0, .int .i64 o_1, .int .i64 o_2, .int .i64 o_3, .string o_4, .string o_5] 47) w fun o_ w1 =>
  New (.cells #[.int .i64 (0 : Int), .int .i64 (0 : Int), .int .i64 (0 : Int), .string (ByteArray.mk #[]), .string (ByteArray.mk #[]), .string (ByteArray.mk #[])] 87) w1 fun b2 w2 =>
  LdI .i64 ⟨o_, 1, none⟩ w2 fun x5 =>
  LdI .i64 ⟨o_, 2, none⟩ w2 fun x7 =>
  LdI .i64 ⟨o_, 3, none⟩ w2 fun x9 =>
  LdS ⟨o_, 4, none⟩ w2 fun x11 =>
  New (.cells #[.int .i64 (0 : Int), .int .i64 (0 : Int), .int .i64 (0 : Int), .string (ByteArray.mk #[]), .string (ByteArray.mk #[]), .string (ByteArray.mk #[])] 87) w2 fun c_ w3 =>
  Sts [.int .i64 x5, .int .i64 x7, .int .i64 x9, .string x11, .string (ByteArray.mk #[]), .string (ByteArray.mk #[])] ⟨c_, 0, none⟩ 0 w3 fun w4 =>
  LdI .i64 ⟨o_, 1, none⟩ w4 fun x14 =>
  Bm (x14 == (1 : Int)) (
    LdS ⟨o_, 5, none⟩ w4 fun x17 =>
    Sts [.string x17] ⟨c_, 4, none⟩ 0 w4 fun w5 =>
    LdI .i64 ⟨c_, 0, none⟩ w5 fun x19_0 =>
    LdI .i64 ⟨c_, 1, none⟩ w5 fun x19_1 =>
    LdI .i64 ⟨c_, 2, none⟩ w5 fun x19_2 =>
    LdS ⟨c_, 3, none⟩ w5 fun x19_3 =>
    LdS ⟨c_, 4, none⟩ w5 fun x19_4 =>
    LdS ⟨c_, 5, none⟩ w5 fun x19_5 =>
    Sts [.int .i64 x19_0, .int .i64 x19_1, .int .i64 x19_2, .string x19_3, .string x19_4, .string x19_5] ⟨b2, 0, none⟩ 0 w5 fun w6 =>
    LdI .i64 ⟨b2, 0, none⟩ w6 fun r_0 =>
    LdI .i64 ⟨b2, 1, none⟩ w6 fun r_1 =>
    LdI .i64 ⟨b2, 2, none⟩ w6 fun r_2 =>
    LdS ⟨b2, 3, none⟩ w6 fun r_3 =>
    LdS ⟨b2, 4, none⟩ w6 fun r_4 =>
    LdS ⟨b2, 5, none⟩ w6 fun r_5 =>
    R r_0 r_1 r_2 r_3 r_4 r_5 w6) (
    LdS ⟨o_, 5, none⟩ w4 fun x22 =>
    nodelaw_SplitBar.Call x22 w4 fun r23_0 r23_1 w7 =>
    Sts [.string r23_0] ⟨c_, 5, none⟩ 0 w7 fun w8 =>
    Sts [.string r23_1] ⟨c_, 4, none⟩ 0 w8 fun w9 =>
    LdI .i64 ⟨c_, 0, none⟩ w9 fun x28_0 =>
    LdI .i64 ⟨c_, 1, none⟩ w9 fun x28_1 =>
    LdI .i64 ⟨c_, 2, none⟩ w9 fun x28_2 =>
    LdS ⟨c_, 3, none⟩ w9 fun x28_3 =>
    LdS ⟨c_, 4, none⟩ w9 fun x28_4 =>
    LdS ⟨c_, 5, none⟩ w9 fun x28_5 =>
    Sts [.int .i64 x28_0, .int .i64 x28_1, .int .i64 x28_2, .string x28_3, .string x28_4, .string x28_5] ⟨b2, 0, none⟩ 0 w9 fun w10 =>
    LdI .i64 ⟨b2, 0, none⟩ w10 fun r_0_1 =>
    LdI .i64 ⟨b2, 1, none⟩ w10 fun r_1_1 =>
    LdI .i64 ⟨b2, 2, none⟩ w10 fun r_2_1 =>
    LdS ⟨b2, 3, none⟩ w10 fun r_3_1 =>
    LdS ⟨b2, 4, none⟩ w10 fun r_4_1 =>
    LdS ⟨b2, 5, none⟩ w10 fun r_5_1 =>
    R r_0_1 r_1_1 r_2_1 r_3_1 r_4_1 r_5_1 w10)
theorem nodelaw_CmdOf.B0_eq (o_0 o_1 o_2 o_3 : Int) (o_4 o_5 : ByteArray) (w : World)   (R : Int → Int → Int → ByteArray → ByteArray → ByteArray → World → Prop)  :
    (
  New (.cells #[.int .i64 o_0, .int .i64 o_1, .int .i64 o_2, .int .i64 o_3, .string o_4, .string o_5] 47) w fun o_ w1 =>
  New (.cells #[.int .i64 (0 : Int), .int .i64 (0 : Int), .int .i64 (0 : Int), .string (ByteArray.mk #[]), .string (ByteArray.mk #[]), .string (ByteArray.mk #[])] 87) w1 fun b2 w2 =>
  LdI .i64 ⟨o_, 1, none⟩ w2 fun x5 =>
  LdI .i64 ⟨o_, 2, none⟩ w2 fun x7 =>
  LdI .i64 ⟨o_, 3, none⟩ w2 fun x9 =>
  LdS ⟨o_, 4, none⟩ w2 fun x11 =>
  New (.cells #[.int .i64 (0 : Int), .int .i64 (0 : Int), .int .i64 (0 : Int), .string (ByteArray.mk #[]), .string (ByteArray.mk #[]), .string (ByteArray.mk #[])] 87) w2 fun c_ w3 =>
  Sts [.int .i64 x5, .int .i64 x7, .int .i64 x9, .string x11, .string (ByteArray.mk #[]), .string (ByteArray.mk #[])] ⟨c_, 0, none⟩ 0 w3 fun w4 =>
  LdI .i64 ⟨o_, 1, none⟩ w4 fun x14 =>
  Bm (x14 == (1 : Int)) (
    LdS ⟨o_, 5, none⟩ w4 fun x17 =>
    Sts [.string x17] ⟨c_, 4, none⟩ 0 w4 fun w5 =>
    LdI .i64 ⟨c_, 0, none⟩ w5 fun x19_0 =>
    LdI .i64 ⟨c_, 1, none⟩ w5 fun x19_1 =>
    LdI .i64 ⟨c_, 2, none⟩ w5 fun x19_2 =>
    LdS ⟨c_, 3, none⟩ w5 fun x19_3 =>
    LdS ⟨c_, 4, none⟩ w5 fun x19_4 =>
    LdS ⟨c_, 5, none⟩ w5 fun x19_5 =>
    Sts [.int .i64 x19_0, .int .i64 x19_1, .int .i64 x19_2, .string x19_3, .string x19_4, .string x19_5] ⟨b2, 0, none⟩ 0 w5 fun w6 =>
    LdI .i64 ⟨b2, 0, none⟩ w6 fun r_0 =>
    LdI .i64 ⟨b2, 1, none⟩ w6 fun r_1 =>
    LdI .i64 ⟨b2, 2, none⟩ w6 fun r_2 =>
    LdS ⟨b2, 3, none⟩ w6 fun r_3 =>
    LdS ⟨b2, 4, none⟩ w6 fun r_4 =>
    LdS ⟨b2, 5, none⟩ w6 fun r_5 =>
    R r_0 r_1 r_2 r_3 r_4 r_5 w6) (
    LdS ⟨o_, 5, none⟩ w4 fun x22 =>
    nodelaw_SplitBar.Call x22 w4 fun r23_0 r23_1 w7 =>
    Sts [.string r23_0] ⟨c_, 5, none⟩ 0 w7 fun w8 =>
    Sts [.string r23_1] ⟨c_, 4, none⟩ 0 w8 fun w9 =>
    LdI .i64 ⟨c_, 0, none⟩ w9 fun x28_0 =>
    LdI .i64 ⟨c_, 1, none⟩ w9 fun x28_1 =>
    LdI .i64 ⟨c_, 2, none⟩ w9 fun x28_2 =>
    LdS ⟨c_, 3, none⟩ w9 fun x28_3 =>
    LdS ⟨c_, 4, none⟩ w9 fun x28_4 =>
    LdS ⟨c_, 5, none⟩ w9 fun x28_5 =>
    Sts [.int .i64 x28_0, .int .i64 x28_1, .int .i64 x28_2, .string x28_3, .string x28_4, .string x28_5] ⟨b2, 0, none⟩ 0 w9 fun w10 =>
    LdI .i64 ⟨b2, 0, none⟩ w10 fun r_0_1 =>
    LdI .i64 ⟨b2, 1, none⟩ w10 fun r_1_1 =>
    LdI .i64 ⟨b2, 2, none⟩ w10 fun r_2_1 =>
    LdS ⟨b2, 3, none⟩ w10 fun r_3_1 =>
    LdS ⟨b2, 4, none⟩ w10 fun r_4_1 =>
    LdS ⟨b2, 5, none⟩ w10 fun r_5_1 =>
    R r_0_1 r_1_1 r_2_1 r_3_1 r_4_1 r_5_1 w10)) = kstep Tryz.prog 29 Tryz.f41.results.toList (Tryz.f41.body.getD .skip) (nodelaw_CmdOf.RV R) (kvc Tryz.prog 29 Tryz.f41.results.toList (Tryz.f41.body.getD .skip) (nodelaw_CmdOf.RV R) [] 2000) [(0, [])] [(0, .agg #[.int .i64 o_0, .int .i64 o_1, .int .i64 o_2, .int .i64 o_3, .string o_4, .string o_5])] w := by kernel_rfl
theorem nodelaw_CmdOf.B0_sound {R : Int → Int → Int → ByteArray → ByteArray → ByteArray → World → Prop}  (o_0 o_1 o_2 o_3 : Int) (o_4 o_5 : ByteArray) (w : World) (h : nodelaw_CmdOf.B0 o_0 o_1 o_2 o_3 o_4 o_5 w   R) :
    KW Tryz.prog 41 29 (nodelaw_CmdOf.RV R) ([(0, [])].map (toItem (Tryz.f41.body.getD .skip))) [(0, .agg #[.int .i64 o_0, .int .i64 o_1, .int .i64 o_2, .int .i64 o_3, .string o_4, .string o_5])] w := by
  exact block_spec Tryz.func41 Tryz.mixed stops_nil (Eq.mp (nodelaw_CmdOf.B0_eq o_0 o_1 o_2 o_3 o_4 o_5 w   R ) h)
theorem nodelaw_CmdOf.sound (o_0 o_1 o_2 o_3 : Int) (o_4 o_5 : ByteArray) (w : World) (R : Int → Int → Int → ByteArray → ByteArray → ByteArray → World → Prop) (h : nodelaw_CmdOf.B0 o_0 o_1 o_2 o_3 o_4 o_5 w R) : nodelaw_CmdOf.Call o_0 o_1 o_2 o_3 o_4 o_5 w R := by
  have hc := calls_of_block (args := #[.agg #[.int .i64 o_0, .int .i64 o_1, .int .i64 o_2, .int .i64 o_3, .string o_4, .string o_5]]) Tryz.func41 (body := (Tryz.f41.body.getD .skip)) (by kernel_rfl) (by kernel_rfl) (args_slot _) (nodelaw_CmdOf.B0_sound o_0 o_1 o_2 o_3 o_4 o_5 w h)
  exact hc.mono fun e w' he => by
    obtain ⟨v, rfl, hv⟩ := he
    exact nodelaw_CmdOf.RV_elim hv
def node_Node_Call.B0 (n : Option Addr) (c_0 c_1 c_2 : Int) (c_3 c_4 c_5 : ByteArray) (w : World)   (R : Int → Option Addr → Nat → Nat → Option Addr → Nat → Nat → World → Prop) : Prop :=
  New (.cells #[.int .i64 c_0, .int .i64 c_1, .int .i64 c_2, .string c_3, .string c_4, .string c_5] 87) w fun c_ w1 =>
  New (.cells #[.int .i64 (0 : Int), .slice none 0 0, .slice none 0 0] 42) w1 fun b4 w2 =>
  LdI .i64 ⟨c_, 0, none⟩ w2 fun x9_0 =>
  LdI .i64 ⟨c_, 1, none⟩ w2 fun x9_1 =>
  LdI .i64 ⟨c_, 2, none⟩ w2 fun x9_2 =>
  LdS ⟨c_, 3, none⟩ w2 fun x9_3 =>
  LdS ⟨c_, 4, none⟩ w2 fun x9_4 =>
  LdS ⟨c_, 5, none⟩ w2 fun x9_5 =>
  api_CmdOK.Call x9_0 x9_1 x9_2 x9_3 x9_4 x9_5 w2 fun r10 w3 =>
  Bm (!r10) (
    Sts [.int .i64 (9 : Int), .slice none 0 0, .slice none 0 0] ⟨b4, 0, none⟩ 0 w3 fun w4 =>
    LdI .i64 ⟨b4, 0, none⟩ w4 fun r_0 =>
    LdL ⟨b4, 1, none⟩ w4 fun r_1_b r_1_l r_1_c =>
    LdL ⟨b4, 2, none⟩ w4 fun r_2_b r_2_l r_2_c =>
    R r_0 r_1_b r_1_l r_1_c r_2_b r_2_l r_2_c w4) (
    Pn n fun a =>
    LdP a w3 fun x16 =>
    sync_Sync_View.Call x16 w3 fun r17 w5 =>
    Pn r17 fun a_1 =>
    LdI .i64 (a_1.add 3) w5 fun x21 =>
    Bm (x21 != (2 : Int)) (
      Sts [.int .i64 (8 : Int), .slice none 0 0, .slice none 0 0] ⟨b4, 0, none⟩ 0 w5 fun w6 =>
      LdI .i64 ⟨b4, 0, none⟩ w6 fun r_0_1 =>
      LdL ⟨b4, 1, none⟩ w6 fun r_1_b_1 r_1_l_1 r_1_c_1 =>
      LdL ⟨b4, 2, none⟩ w6 fun r_2_b_1 r_2_l_1 r_2_c_1 =>
      R r_0_1 r_1_b_1 r_1_l_1 r_1_c_1 r_2_b_1 r_2_l_1 r_2_c_1 w6) (
      LdI .i64 ⟨c_, 1, none⟩ w5.drew fun x26 =>
      Pn n fun a_2 =>
      (0 ≤ x26 ∧ x26 < ((3 : Nat) : Int)) ∧
      LdB (Addr.add (a_2.add 4) (x26.toNat * 1)) w5.drew fun x30 =>
      Bm x30 (
        Sts [.int .i64 (14 : Int), .slice none 0 0, .slice none 0 0] ⟨b4, 0, none⟩ 0 w5.drew fun w7 =>
        LdI .i64 ⟨b4, 0, none⟩ w7 fun r_0_2 =>
        LdL ⟨b4, 1, none⟩ w7 fun r_1_b_2 r_1_l_2 r_1_c_2 =>
        LdL ⟨b4, 2, none⟩ w7 fun r_2_b_2 r_2_l_2 r_2_c_2 =>
        R r_0_2 r_1_b_2 r_1_l_2 r_1_c_2 r_2_b_2 r_2_l_2 r_2_c_2 w7) (
        LdI .i64 ⟨c_, 0, none⟩ w5.drew fun x32_0 =>
        LdI .i64 ⟨c_, 1, none⟩ w5.drew fun x32_1 =>
        LdI .i64 ⟨c_, 2, none⟩ w5.drew fun x32_2 =>
        LdS ⟨c_, 3, none⟩ w5.drew fun x32_3 =>
        LdS ⟨c_, 4, none⟩ w5.drew fun x32_4 =>
        LdS ⟨c_, 5, none⟩ w5.drew fun x32_5 =>
        api_EncodeCmd.Call x32_0 x32_1 x32_2 x32_3 x32_4 x32_5 w5.drew fun r33 w8 =>
        Pn n fun a_3 =>
        LdP a_3 w8 fun x38 =>
        sync_Sync_Propose.Call x38 r33 w8 fun r40_0 r40_1 w9 =>
        Bm (r40_1 != (0 : Int)) (
          Sts [.int .i64 r40_1, .slice none 0 0, .slice none 0 0] ⟨b4, 0, none⟩ 0 w9 fun w10 =>
          LdI .i64 ⟨b4, 0, none⟩ w10 fun r_0_3 =>
          LdL ⟨b4, 1, none⟩ w10 fun r_1_b_3 r_1_l_3 r_1_c_3 =>
          LdL ⟨b4, 2, none⟩ w10 fun r_2_b_3 r_2_l_3 r_2_c_3 =>
          R r_0_3 r_1_b_3 r_1_l_3 r_1_c_3 r_2_b_3 r_2_l_3 r_2_c_3 w10) (
          LdI .i64 ⟨c_, 1, none⟩ w9.drew fun x49 =>
          LdI .i64 ⟨c_, 1, none⟩ w9.drew fun x52 =>
          LdI .i64 ⟨c_, 1, none⟩ w9.drew fun x55 =>
          LdI .i64 ⟨c_, 2, none⟩ w9.drew fun x57 =>
          Pn n fun a_4 =>
          (0 ≤ x49 ∧ x49 < ((3 : Nat) : Int)) ∧
          Pn n fun a_5 =>
          Pn n fun a_6 =>
          Sts [.bool true] (Addr.add (a_4.add 4) (x49.toNat * 1)) 0 w9.drew fun w11 =>
          w11.cell? ⟨c_, 2, none⟩ = some (.int .i64 x57) ∧
          w11.cell? ⟨c_, 1, none⟩ = some (.int .i64 x55) ∧
          w11.cell? ⟨c_, 1, none⟩ = some (.int .i64 x52) ∧
          (0 ≤ x52 ∧ x52 < ((3 : Nat) : Int)) ∧
          Sts [.int .i64 x57] (Addr.add (a_5.add 7) (x52.toNat * 1)) 0 w11 fun w12 =>
          w12.cell? ⟨c_, 1, none⟩ = some (.int .i64 x55) ∧
          (0 ≤ x55 ∧ x55 < ((3 : Nat) : Int)) ∧
          Sts [.int .i64 r40_0] (Addr.add (a_6.add 10) (x55.toNat * 1)) 0 w12 fun w13 =>
          node_Node_after.Call n none 0 0 w13 fun r69_0 r69_1_b r69_1_l r69_1_c r69_2_b r69_2_l r69_2_c w14 =>
          Sts [.int .i64 r69_0, .slice r69_1_b r69_1_l r69_1_c, .slice r69_2_b r69_2_l r69_2_c] ⟨b4, 0, none⟩ 0 w14 fun w15 =>
          LdI .i64 ⟨b4, 0, none⟩ w15 fun r_0_4 =>
          LdL ⟨b4, 1, none⟩ w15 fun r_1_b_4 r_1_l_4 r_1_c_4 =>
          LdL ⟨b4, 2, none⟩ w15 fun r_2_b_4 r_2_l_4 r_2_c_4 =>
          R r_0_4 r_1_b_4 r_1_l_4 r_1_c_4 r_2_b_4 r_2_l_4 r_2_c_4 w15))))
theorem node_Node_Call.B0_eq (n : Option Addr) (c_0 c_1 c_2 : Int) (c_3 c_4 c_5 : ByteArray) (w : World)   (R : Int → Option Addr → Nat → Nat → Option Addr → Nat → Nat → World → Prop)  :
    (
  New (.cells #[.int .i64 c_0, .int .i64 c_1, .int .i64 c_2, .string c_3, .string c_4, .string c_5] 87) w fun c_ w1 =>
  New (.cells #[.int .i64 (0 : Int), .slice none 0 0, .slice none 0 0] 42) w1 fun b4 w2 =>
  LdI .i64 ⟨c_, 0, none⟩ w2 fun x9_0 =>
  LdI .i64 ⟨c_, 1, none⟩ w2 fun x9_1 =>
  LdI .i64 ⟨c_, 2, none⟩ w2 fun x9_2 =>
  LdS ⟨c_, 3, none⟩ w2 fun x9_3 =>
  LdS ⟨c_, 4, none⟩ w2 fun x9_4 =>
  LdS ⟨c_, 5, none⟩ w2 fun x9_5 =>
  api_CmdOK.Call x9_0 x9_1 x9_2 x9_3 x9_4 x9_5 w2 fun r10 w3 =>
  Bm (!r10) (
    Sts [.int .i64 (9 : Int), .slice none 0 0, .slice none 0 0] ⟨b4, 0, none⟩ 0 w3 fun w4 =>
    LdI .i64 ⟨b4, 0, none⟩ w4 fun r_0 =>
    LdL ⟨b4, 1, none⟩ w4 fun r_1_b r_1_l r_1_c =>
    LdL ⟨b4, 2, none⟩ w4 fun r_2_b r_2_l r_2_c =>
    R r_0 r_1_b r_1_l r_1_c r_2_b r_2_l r_2_c w4) (
    Pn n fun a =>
    LdP a w3 fun x16 =>
    sync_Sync_View.Call x16 w3 fun r17 w5 =>
    Pn r17 fun a_1 =>
    LdI .i64 (a_1.add 3) w5 fun x21 =>
    Bm (x21 != (2 : Int)) (
      Sts [.int .i64 (8 : Int), .slice none 0 0, .slice none 0 0] ⟨b4, 0, none⟩ 0 w5 fun w6 =>
      LdI .i64 ⟨b4, 0, none⟩ w6 fun r_0_1 =>
      LdL ⟨b4, 1, none⟩ w6 fun r_1_b_1 r_1_l_1 r_1_c_1 =>
      LdL ⟨b4, 2, none⟩ w6 fun r_2_b_1 r_2_l_1 r_2_c_1 =>
      R r_0_1 r_1_b_1 r_1_l_1 r_1_c_1 r_2_b_1 r_2_l_1 r_2_c_1 w6) (
      LdI .i64 ⟨c_, 1, none⟩ w5.drew fun x26 =>
      Pn n fun a_2 =>
      (0 ≤ x26 ∧ x26 < ((3 : Nat) : Int)) ∧
      LdB (Addr.add (a_2.add 4) (x26.toNat * 1)) w5.drew fun x30 =>
      Bm x30 (
        Sts [.int .i64 (14 : Int), .slice none 0 0, .slice none 0 0] ⟨b4, 0, none⟩ 0 w5.drew fun w7 =>
        LdI .i64 ⟨b4, 0, none⟩ w7 fun r_0_2 =>
        LdL ⟨b4, 1, none⟩ w7 fun r_1_b_2 r_1_l_2 r_1_c_2 =>
        LdL ⟨b4, 2, none⟩ w7 fun r_2_b_2 r_2_l_2 r_2_c_2 =>
        R r_0_2 r_1_b_2 r_1_l_2 r_1_c_2 r_2_b_2 r_2_l_2 r_2_c_2 w7) (
        LdI .i64 ⟨c_, 0, none⟩ w5.drew fun x32_0 =>
        LdI .i64 ⟨c_, 1, none⟩ w5.drew fun x32_1 =>
        LdI .i64 ⟨c_, 2, none⟩ w5.drew fun x32_2 =>
        LdS ⟨c_, 3, none⟩ w5.drew fun x32_3 =>
        LdS ⟨c_, 4, none⟩ w5.drew fun x32_4 =>
        LdS ⟨c_, 5, none⟩ w5.drew fun x32_5 =>
        api_EncodeCmd.Call x32_0 x32_1 x32_2 x32_3 x32_4 x32_5 w5.drew fun r33 w8 =>
        Pn n fun a_3 =>
        LdP a_3 w8 fun x38 =>
        sync_Sync_Propose.Call x38 r33 w8 fun r40_0 r40_1 w9 =>
        Bm (r40_1 != (0 : Int)) (
          Sts [.int .i64 r40_1, .slice none 0 0, .slice none 0 0] ⟨b4, 0, none⟩ 0 w9 fun w10 =>
          LdI .i64 ⟨b4, 0, none⟩ w10 fun r_0_3 =>
          LdL ⟨b4, 1, none⟩ w10 fun r_1_b_3 r_1_l_3 r_1_c_3 =>
          LdL ⟨b4, 2, none⟩ w10 fun r_2_b_3 r_2_l_3 r_2_c_3 =>
          R r_0_3 r_1_b_3 r_1_l_3 r_1_c_3 r_2_b_3 r_2_l_3 r_2_c_3 w10) (
          LdI .i64 ⟨c_, 1, none⟩ w9.drew fun x49 =>
          LdI .i64 ⟨c_, 1, none⟩ w9.drew fun x52 =>
          LdI .i64 ⟨c_, 1, none⟩ w9.drew fun x55 =>
          LdI .i64 ⟨c_, 2, none⟩ w9.drew fun x57 =>
          Pn n fun a_4 =>
          (0 ≤ x49 ∧ x49 < ((3 : Nat) : Int)) ∧
          Pn n fun a_5 =>
          Pn n fun a_6 =>
          Sts [.bool true] (Addr.add (a_4.add 4) (x49.toNat * 1)) 0 w9.drew fun w11 =>
          w11.cell? ⟨c_, 2, none⟩ = some (.int .i64 x57) ∧
          w11.cell? ⟨c_, 1, none⟩ = some (.int .i64 x55) ∧
          w11.cell? ⟨c_, 1, none⟩ = some (.int .i64 x52) ∧
          (0 ≤ x52 ∧ x52 < ((3 : Nat) : Int)) ∧
          Sts [.int .i64 x57] (Addr.add (a_5.add 7) (x52.toNat * 1)) 0 w11 fun w12 =>
          w12.cell? ⟨c_, 1, none⟩ = some (.int .i64 x55) ∧
          (0 ≤ x55 ∧ x55 < ((3 : Nat) : Int)) ∧
          Sts [.int .i64 r40_0] (Addr.add (a_6.add 10) (x55.toNat * 1)) 0 w12 fun w13 =>
          node_Node_after.Call n none 0 0 w13 fun r69_0 r69_1_b r69_1_l r69_1_c r69_2_b r69_2_l r69_2_c w14 =>
          Sts [.int .i64 r69_0, .slice r69_1_b r69_1_l r69_1_c, .slice r69_2_b r69_2_l r69_2_c] ⟨b4, 0, none⟩ 0 w14 fun w15 =>
          LdI .i64 ⟨b4, 0, none⟩ w15 fun r_0_4 =>
          LdL ⟨b4, 1, none⟩ w15 fun r_1_b_4 r_1_l_4 r_1_c_4 =>
          LdL ⟨b4, 2, none⟩ w15 fun r_2_b_4 r_2_l_4 r_2_c_4 =>
          R r_0_4 r_1_b_4 r_1_l_4 r_1_c_4 r_2_b_4 r_2_l_4 r_2_c_4 w15))))) = kstep Tryz.prog 70 Tryz.f42.results.toList (Tryz.f42.body.getD .skip) (node_Node_Call.RV R) (kvc Tryz.prog 70 Tryz.f42.results.toList (Tryz.f42.body.getD .skip) (node_Node_Call.RV R) [] 2000) [(0, [])] [(0, .pointer n), (1, .agg #[.int .i64 c_0, .int .i64 c_1, .int .i64 c_2, .string c_3, .string c_4, .string c_5])] w := by kernel_rfl
theorem node_Node_Call.B0_sound {R : Int → Option Addr → Nat → Nat → Option Addr → Nat → Nat → World → Prop}  (n : Option Addr) (c_0 c_1 c_2 : Int) (c_3 c_4 c_5 : ByteArray) (w : World) (h : node_Node_Call.B0 n c_0 c_1 c_2 c_3 c_4 c_5 w   R) :
    KW Tryz.prog 42 70 (node_Node_Call.RV R) ([(0, [])].map (toItem (Tryz.f42.body.getD .skip))) [(0, .pointer n), (1, .agg #[.int .i64 c_0, .int .i64 c_1, .int .i64 c_2, .string c_3, .string c_4, .string c_5])] w := by
  exact block_spec Tryz.func42 Tryz.mixed stops_nil (Eq.mp (node_Node_Call.B0_eq n c_0 c_1 c_2 c_3 c_4 c_5 w   R ) h)
theorem node_Node_Call.sound (n : Option Addr) (c_0 c_1 c_2 : Int) (c_3 c_4 c_5 : ByteArray) (w : World) (R : Int → Option Addr → Nat → Nat → Option Addr → Nat → Nat → World → Prop) (h : node_Node_Call.B0 n c_0 c_1 c_2 c_3 c_4 c_5 w R) : node_Node_Call.Call n c_0 c_1 c_2 c_3 c_4 c_5 w R := by
  have hc := calls_of_block (args := #[.pointer n, .agg #[.int .i64 c_0, .int .i64 c_1, .int .i64 c_2, .string c_3, .string c_4, .string c_5]]) Tryz.func42 (body := (Tryz.f42.body.getD .skip)) (by kernel_rfl) (by kernel_rfl) (args_slot _) (node_Node_Call.B0_sound n c_0 c_1 c_2 c_3 c_4 c_5 w h)
  exact hc.mono fun e w' he => by
    obtain ⟨v, rfl, hv⟩ := he
    exact node_Node_Call.RV_elim hv
def nodem_Node_Tick.B0 (n : Option Addr) (w : World)   (R : Int → Option Addr → Nat → Nat → Option Addr → Nat → Nat → World → Prop) : Prop :=
  New (.cells #[.int .i64 (0 : Int), .slice none 0 0, .slice none 0 0] 42) w fun b2 w1 =>
  Pn n fun a =>
  LdP a w1 fun x7 =>
  syncm_Sync_Tick.Call x7 w1 fun r8_b r8_l r8_c w2 =>
  nodem_Node_after.Call n r8_b r8_l r8_c w2 fun r11_0 r11_1_b r11_1_l r11_1_c r11_2_b r11_2_l r11_2_c w3 =>
  Sts [.int .i64 r11_0, .slice r11_1_b r11_1_l r11_1_c, .slice r11_2_b r11_2_l r11_2_c] ⟨b2, 0, none⟩ 0 w3 fun w4 =>
  LdI .i64 ⟨b2, 0, none⟩ w4 fun r_0 =>
  LdL ⟨b2, 1, none⟩ w4 fun r_1_b r_1_l r_1_c =>
  LdL ⟨b2, 2, none⟩ w4 fun r_2_b r_2_l r_2_c =>
  R r_0 r_1_b r_1_l r_1_c r_2_b r_2_l r_2_c w4
theorem nodem_Node_Tick.B0_eq (n : Option Addr) (w : World)   (R : Int → Option Addr → Nat → Nat → Option Addr → Nat → Nat → World → Prop)  :
    (
  New (.cells #[.int .i64 (0 : Int), .slice none 0 0, .slice none 0 0] 42) w fun b2 w1 =>
  Pn n fun a =>
  LdP a w1 fun x7 =>
  syncm_Sync_Tick.Call x7 w1 fun r8_b r8_l r8_c w2 =>
  nodem_Node_after.Call n r8_b r8_l r8_c w2 fun r11_0 r11_1_b r11_1_l r11_1_c r11_2_b r11_2_l r11_2_c w3 =>
  Sts [.int .i64 r11_0, .slice r11_1_b r11_1_l r11_1_c, .slice r11_2_b r11_2_l r11_2_c] ⟨b2, 0, none⟩ 0 w3 fun w4 =>
  LdI .i64 ⟨b2, 0, none⟩ w4 fun r_0 =>
  LdL ⟨b2, 1, none⟩ w4 fun r_1_b r_1_l r_1_c =>
  LdL ⟨b2, 2, none⟩ w4 fun r_2_b r_2_l r_2_c =>
  R r_0 r_1_b r_1_l r_1_c r_2_b r_2_l r_2_c w4) = kstep Tryz.prog 12 Tryz.f43.results.toList (Tryz.f43.body.getD .skip) (nodem_Node_Tick.RV R) (kvc Tryz.prog 12 Tryz.f43.results.toList (Tryz.f43.body.getD .skip) (nodem_Node_Tick.RV R) [] 2000) [(0, [])] [(0, .pointer n)] w := by kernel_rfl
theorem nodem_Node_Tick.B0_sound {R : Int → Option Addr → Nat → Nat → Option Addr → Nat → Nat → World → Prop}  (n : Option Addr) (w : World) (h : nodem_Node_Tick.B0 n w   R) :
    KW Tryz.prog 43 12 (nodem_Node_Tick.RV R) ([(0, [])].map (toItem (Tryz.f43.body.getD .skip))) [(0, .pointer n)] w := by
  exact block_spec Tryz.func43 Tryz.mixed stops_nil (Eq.mp (nodem_Node_Tick.B0_eq n w   R ) h)
theorem nodem_Node_Tick.sound (n : Option Addr) (w : World) (R : Int → Option Addr → Nat → Nat → Option Addr → Nat → Nat → World → Prop) (h : nodem_Node_Tick.B0 n w R) : nodem_Node_Tick.Call n w R := by
  have hc := calls_of_block (args := #[.pointer n]) Tryz.func43 (body := (Tryz.f43.body.getD .skip)) (by kernel_rfl) (by kernel_rfl) (args_slot _) (nodem_Node_Tick.B0_sound n w h)
  exact hc.mono fun e w' he => by
    obtain ⟨v, rfl, hv⟩ := he
    exact nodem_Node_Tick.RV_elim hv
def nodem_Node_Receive.B1 (n : Option Addr) (t4 m0 : Nat) (t36 : Bool) (w : World)   (R : Int → Option Addr → Nat → Nat → Option Addr → Nat → Nat → World → Prop) : Prop :=
  Bm t36 (
    Sts [.int .i64 (12 : Int), .slice none 0 0, .slice none 0 0] ⟨t4, 0, none⟩ 0 w fun w1 =>
    LdI .i64 ⟨t4, 0, none⟩ w1 fun r_0 =>
    LdL ⟨t4, 1, none⟩ w1 fun r_1_b r_1_l r_1_c =>
    LdL ⟨t4, 2, none⟩ w1 fun r_2_b r_2_l r_2_c =>
    R r_0 r_1_b r_1_l r_1_c r_2_b r_2_l r_2_c w1) (
    Pn n fun a =>
    LdP a w.drew fun x41 =>
    LdI .i64 ⟨m0, 0, none⟩ w.drew fun x42_0 =>
    LdI .i64 ⟨m0, 1, none⟩ w.drew fun x42_1 =>
    LdI .i64 ⟨m0, 2, none⟩ w.drew fun x42_2 =>
    LdI .i64 ⟨m0, 3, none⟩ w.drew fun x42_3 =>
    LdI .i64 ⟨m0, 4, none⟩ w.drew fun x42_4 =>
    LdI .i64 ⟨m0, 5, none⟩ w.drew fun x42_5 =>
    LdI .i64 ⟨m0, 6, none⟩ w.drew fun x42_6 =>
    LdB ⟨m0, 7, none⟩ w.drew fun x42_7 =>
    LdL ⟨m0, 8, none⟩ w.drew fun x42_8_b x42_8_l x42_8_c =>
    LdS ⟨m0, 9, none⟩ w.drew fun x42_9 =>
    syncm_Sync_Step.Call x41 x42_0 x42_1 x42_2 x42_3 x42_4 x42_5 x42_6 x42_7 x42_8_b x42_8_l x42_8_c x42_9 w.drew fun r43_b r43_l r43_c w2 =>
    nodem_Node_after.Call n r43_b r43_l r43_c w2 fun r46_0 r46_1_b r46_1_l r46_1_c r46_2_b r46_2_l r46_2_c w3 =>
    Sts [.int .i64 r46_0, .slice r46_1_b r46_1_l r46_1_c, .slice r46_2_b r46_2_l r46_2_c] ⟨t4, 0, none⟩ 0 w3 fun w4 =>
    LdI .i64 ⟨t4, 0, none⟩ w4 fun r_0_1 =>
    LdL ⟨t4, 1, none⟩ w4 fun r_1_b_1 r_1_l_1 r_1_c_1 =>
    LdL ⟨t4, 2, none⟩ w4 fun r_2_b_1 r_2_l_1 r_2_c_1 =>
    R r_0_1 r_1_b_1 r_1_l_1 r_1_c_1 r_2_b_1 r_2_l_1 r_2_c_1 w4)
theorem nodem_Node_Receive.B1_eq (n : Option Addr) (t4 m0 : Nat) (t36 : Bool) (w : World)   (R : Int → Option Addr → Nat → Nat → Option Addr → Nat → Nat → World → Prop)  :
    (
  Bm t36 (
    Sts [.int .i64 (12 : Int), .slice none 0 0, .slice none 0 0] ⟨t4, 0, none⟩ 0 w fun w1 =>
    LdI .i64 ⟨t4, 0, none⟩ w1 fun r_0 =>
    LdL ⟨t4, 1, none⟩ w1 fun r_1_b r_1_l r_1_c =>
    LdL ⟨t4, 2, none⟩ w1 fun r_2_b r_2_l r_2_c =>
    R r_0 r_1_b r_1_l r_1_c r_2_b r_2_l r_2_c w1) (
    Pn n fun a =>
    LdP a w.drew fun x41 =>
    LdI .i64 ⟨m0, 0, none⟩ w.drew fun x42_0 =>
    LdI .i64 ⟨m0, 1, none⟩ w.drew fun x42_1 =>
    LdI .i64 ⟨m0, 2, none⟩ w.drew fun x42_2 =>
    LdI .i64 ⟨m0, 3, none⟩ w.drew fun x42_3 =>
    LdI .i64 ⟨m0, 4, none⟩ w.drew fun x42_4 =>
    LdI .i64 ⟨m0, 5, none⟩ w.drew fun x42_5 =>
    LdI .i64 ⟨m0, 6, none⟩ w.drew fun x42_6 =>
    LdB ⟨m0, 7, none⟩ w.drew fun x42_7 =>
    LdL ⟨m0, 8, none⟩ w.drew fun x42_8_b x42_8_l x42_8_c =>
    LdS ⟨m0, 9, none⟩ w.drew fun x42_9 =>
    syncm_Sync_Step.Call x41 x42_0 x42_1 x42_2 x42_3 x42_4 x42_5 x42_6 x42_7 x42_8_b x42_8_l x42_8_c x42_9 w.drew fun r43_b r43_l r43_c w2 =>
    nodem_Node_after.Call n r43_b r43_l r43_c w2 fun r46_0 r46_1_b r46_1_l r46_1_c r46_2_b r46_2_l r46_2_c w3 =>
    Sts [.int .i64 r46_0, .slice r46_1_b r46_1_l r46_1_c, .slice r46_2_b r46_2_l r46_2_c] ⟨t4, 0, none⟩ 0 w3 fun w4 =>
    LdI .i64 ⟨t4, 0, none⟩ w4 fun r_0_1 =>
    LdL ⟨t4, 1, none⟩ w4 fun r_1_b_1 r_1_l_1 r_1_c_1 =>
    LdL ⟨t4, 2, none⟩ w4 fun r_2_b_1 r_2_l_1 r_2_c_1 =>
    R r_0_1 r_1_b_1 r_1_l_1 r_1_c_1 r_2_b_1 r_2_l_1 r_2_c_1 w4)) = kstep Tryz.prog 47 Tryz.f44.results.toList (Tryz.f44.body.getD .skip) (nodem_Node_Receive.RV R) (kvc Tryz.prog 47 Tryz.f44.results.toList (Tryz.f44.body.getD .skip) (nodem_Node_Receive.RV R) [] 2000) [(0, [1, 1, 1, 0, 1]), (0, [1, 1, 1, 1])] [(0, .pointer n), (4, .pointer (some ⟨t4, 0, none⟩)), (5, .pointer (some ⟨m0, 0, none⟩)), (36, .bool t36)] w := by kernel_rfl
theorem nodem_Node_Receive.B1_sound {R : Int → Option Addr → Nat → Nat → Option Addr → Nat → Nat → World → Prop}  (n : Option Addr) (t4 m0 : Nat) (t36 : Bool) (w : World) (h : nodem_Node_Receive.B1 n t4 m0 t36 w   R) :
    KW Tryz.prog 44 47 (nodem_Node_Receive.RV R) ([(0, [1, 1, 1, 0, 1]), (0, [1, 1, 1, 1])].map (toItem (Tryz.f44.body.getD .skip))) [(0, .pointer n), (4, .pointer (some ⟨t4, 0, none⟩)), (5, .pointer (some ⟨m0, 0, none⟩)), (36, .bool t36)] w := by
  exact block_spec Tryz.func44 Tryz.mixed stops_nil (Eq.mp (nodem_Node_Receive.B1_eq n t4 m0 t36 w   R ) h)
def nodem_Node_Receive.B0 (n : Option Addr) (raw : ByteArray) (w : World)   (R : Int → Option Addr → Nat → Nat → Option Addr → Nat → Nat → World → Prop) : Prop :=
  New (.cells #[.int .i64 (0 : Int), .slice none 0 0, .slice none 0 0] 42) w fun b4 w1 =>
  api_DecodeMsg.Call raw w1 fun r11_0_0 r11_0_1 r11_0_2 r11_0_3 r11_0_4 r11_0_5 r11_0_6 r11_0_7 r11_0_8_b r11_0_8_l r11_0_8_c r11_0_9 r11_1 w2 =>
  New (.cells #[.int .i64 (0 : Int), .int .i64 (0 : Int), .int .i64 (0 : Int), .int .i64 (0 : Int), .int .i64 (0 : Int), .int .i64 (0 : Int), .int .i64 (0 : Int), .bool false, .slice none 0 0, .string (ByteArray.mk #[])] 101) w2 fun m0_ w3 =>
  Sts [.int .i64 r11_0_0, .int .i64 r11_0_1, .int .i64 r11_0_2, .int .i64 r11_0_3, .int .i64 r11_0_4, .int .i64 r11_0_5, .int .i64 r11_0_6, .bool r11_0_7, .slice r11_0_8_b r11_0_8_l r11_0_8_c, .string r11_0_9] ⟨m0_, 0, none⟩ 0 w3 fun w4 =>
  Pn n fun a =>
  LdP a w4 fun x17 =>
  syncm_Sync_View.Call x17 w4 fun r18 w5 =>
  Bm (r11_1 != (0 : Int)) (
    nodem_Node_Receive.B1 n b4 m0_ true w5.drew  R) (
    LdI .i64 ⟨m0_, 2, none⟩ w5.drew fun x23 =>
    Pn r18 fun a_1 =>
    LdI .i64 a_1 w5.drew fun x27 =>
    Bm (x23 != x27) (
      nodem_Node_Receive.B1 n b4 m0_ true w5.drew  R) (
      LdI .i64 ⟨m0_, 1, none⟩ w5.drew fun x32 =>
      LdI .i64 ⟨m0_, 2, none⟩ w5.drew fun x34 =>
      nodem_Node_Receive.B1 n b4 m0_ (x32 == x34) w5.drew  R))
theorem nodem_Node_Receive.B0_eq (n : Option Addr) (raw : ByteArray) (w : World)   (R : Int → Option Addr → Nat → Nat → Option Addr → Nat → Nat → World → Prop) (sB1 : Option Addr → Nat → Nat → Bool → World → Prop) :
    (
  New (.cells #[.int .i64 (0 : Int), .slice none 0 0, .slice none 0 0] 42) w fun b4 w1 =>
  api_DecodeMsg.Call raw w1 fun r11_0_0 r11_0_1 r11_0_2 r11_0_3 r11_0_4 r11_0_5 r11_0_6 r11_0_7 r11_0_8_b r11_0_8_l r11_0_8_c r11_0_9 r11_1 w2 =>
  New (.cells #[.int .i64 (0 : Int), .int .i64 (0 : Int), .int .i64 (0 : Int), .int .i64 (0 : Int), .int .i64 (0 : Int), .int .i64 (0 : Int), .int .i64 (0 : Int), .bool false, .slice none 0 0, .string (ByteArray.mk #[])] 101) w2 fun m0_ w3 =>
  Sts [.int .i64 r11_0_0, .int .i64 r11_0_1, .int .i64 r11_0_2, .int .i64 r11_0_3, .int .i64 r11_0_4, .int .i64 r11_0_5, .int .i64 r11_0_6, .bool r11_0_7, .slice r11_0_8_b r11_0_8_l r11_0_8_c, .string r11_0_9] ⟨m0_, 0, none⟩ 0 w3 fun w4 =>
  Pn n fun a =>
  LdP a w4 fun x17 =>
  syncm_Sync_View.Call x17 w4 fun r18 w5 =>
  Bm (r11_1 != (0 : Int)) (
    sB1 n b4 m0_ true w5.drew) (
    LdI .i64 ⟨m0_, 2, none⟩ w5.drew fun x23 =>
    Pn r18 fun a_1 =>
    LdI .i64 a_1 w5.drew fun x27 =>
    Bm (x23 != x27) (
      sB1 n b4 m0_ true w5.drew) (
      LdI .i64 ⟨m0_, 1, none⟩ w5.drew fun x32 =>
      LdI .i64 ⟨m0_, 2, none⟩ w5.drew fun x34 =>
      sB1 n b4 m0_ (x32 == x34) w5.drew))) = kstep Tryz.prog 47 Tryz.f44.results.toList (Tryz.f44.body.getD .skip) (nodem_Node_Receive.RV R) (kvc Tryz.prog 47 Tryz.f44.results.toList (Tryz.f44.body.getD .skip) (nodem_Node_Receive.RV R) [([(0, [1, 1, 1, 0, 1]), (0, [1, 1, 1, 1])], fun σ w => dP (slotOf σ 0) fun n_ => dK (slotOf σ 4) fun t4_ => dK (slotOf σ 5) fun m0_ => dB (slotOf σ 36) fun t36_ => sB1 n_ t4_ m0_ t36_ w)] 2000) [(0, [])] [(0, .pointer n), (1, .string raw)] w := by kernel_rfl
theorem nodem_Node_Receive.B0_sound {R : Int → Option Addr → Nat → Nat → Option Addr → Nat → Nat → World → Prop}  (n : Option Addr) (raw : ByteArray) (w : World) (h : nodem_Node_Receive.B0 n raw w   R) :
    KW Tryz.prog 44 47 (nodem_Node_Receive.RV R) ([(0, [])].map (toItem (Tryz.f44.body.getD .skip))) [(0, .pointer n), (1, .string raw)] w := by
  exact block_spec Tryz.func44 Tryz.mixed (stops_cons (fun σ w h => by
      obtain ⟨n_, e0, h⟩ := dP_elim h
      obtain ⟨t4_, e1, h⟩ := dK_elim h
      obtain ⟨m0_, e2, h⟩ := dK_elim h
      obtain ⟨t36_, e3, h⟩ := dB_elim h
      exact (nodem_Node_Receive.B1_sound  n_ t4_ m0_ t36_ w h).weaken (Sub.cons (Sub.cons (Sub.cons (Sub.cons (Sub.nil _) e3) e2) e1) e0)) stops_nil) (Eq.mp (nodem_Node_Receive.B0_eq n raw w   R (fun n_ t4_ m0_ t36_ w => nodem_Node_Receive.B1 n_ t4_ m0_ t36_ w  R)) h)
theorem nodem_Node_Receive.sound (n : Option Addr) (raw : ByteArray) (w : World) (R : Int → Option Addr → Nat → Nat → Option Addr → Nat → Nat → World → Prop) (h : nodem_Node_Receive.B0 n raw w R) : nodem_Node_Receive.Call n raw w R := by
  have hc := calls_of_block (args := #[.pointer n, .string raw]) Tryz.func44 (body := (Tryz.f44.body.getD .skip)) (by kernel_rfl) (by kernel_rfl) (args_slot _) (nodem_Node_Receive.B0_sound n raw w h)
  exact hc.mono fun e w' he => by
    obtain ⟨v, rfl, hv⟩ := he
    exact nodem_Node_Receive.RV_elim hv
end Go.Proofs.Qxb6500430aGreat
