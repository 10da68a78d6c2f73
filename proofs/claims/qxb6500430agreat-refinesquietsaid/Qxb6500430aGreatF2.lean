import Derived.Test.Qxb6500430aGreatSig
set_option maxRecDepth 100000
set_option linter.unusedVariables false
open Go.Vc
namespace Go.Proofs.Qxb6500430aGreat
def nodelaw_Spoil.L2b (d : Nat) (i : Int) (w : World)  (N2 : Nat → Int → World → Prop) (R : World → Prop) : Prop :=
  LdL ⟨d, 2, none⟩ w fun x18_b x18_l x18_c =>
  Bm (decide (i < ((x18_l : Nat) : Int))) (
    LdL ⟨d, 2, none⟩ w fun x24_b x24_l x24_c =>
    Pn x24_b fun a =>
    (0 ≤ i ∧ i < ((x24_l : Nat) : Int)) ∧
    Sts [.int .i64 (-7 : Int), .int .i64 (0 : Int), .int .i64 (0 : Int), .string (ByteArray.mk #[])] (Addr.add a (i.toNat * 4)) 0 w fun w1 =>
    N2 d (IntKind.i64.wrap (i + (1 : Int))) w1) (
    R  w)
theorem nodelaw_Spoil.L2b_eq (d : Nat) (i : Int) (w : World)  (N2 : Nat → Int → World → Prop) (R : World → Prop)  :
    (
  LdL ⟨d, 2, none⟩ w fun x18_b x18_l x18_c =>
  Bm (decide (i < ((x18_l : Nat) : Int))) (
    LdL ⟨d, 2, none⟩ w fun x24_b x24_l x24_c =>
    Pn x24_b fun a =>
    (0 ≤ i ∧ i < ((x24_l : Nat) : Int)) ∧
    Sts [.int .i64 (-7 : Int), .int .i64 (0 : Int), .int .i64 (0 : Int), .string (ByteArray.mk #[])] (Addr.add a (i.toNat * 4)) 0 w fun w1 =>
    N2 d (IntKind.i64.wrap (i + (1 : Int))) w1) (
    R  w)) = kstep Tryz.prog 28 Tryz.f21.results.toList (Tryz.f21.body.getD .skip) (nodelaw_Spoil.RV R) (kvc Tryz.prog 28 Tryz.f21.results.toList (Tryz.f21.body.getD .skip) (nodelaw_Spoil.RV R) [([(0, [1, 1, 1, 0, 0]), (2, [1, 1, 1, 0, 0]), (1, [2])], fun σ w => dK (slotOf σ 1) fun d_ => dI .i64 (slotOf σ 3) fun i_ => N2 d_ i_ w)] 2000) [(0, [1, 1, 1, 0, 0]), (2, [1, 1, 1, 0, 0]), (1, [2])] [(1, .pointer (some ⟨d, 0, none⟩)), (3, .int .i64 i)] w := by kernel_rfl
theorem nodelaw_Spoil.L2b_sound {R : World → Prop} {N2 : Nat → Int → World → Prop} (hN2 : ∀ d i w, N2 d i w → KW Tryz.prog 21 28 (nodelaw_Spoil.RV R) ([(0, [1, 1, 1, 0, 0]), (2, [1, 1, 1, 0, 0]), (1, [2])].map (toItem (Tryz.f21.body.getD .skip))) [(1, .pointer (some ⟨d, 0, none⟩)), (3, .int .i64 i)] w) (d : Nat) (i : Int) (w : World) (h : nodelaw_Spoil.L2b d i w  N2 R) :
    KW Tryz.prog 21 28 (nodelaw_Spoil.RV R) ([(0, [1, 1, 1, 0, 0]), (2, [1, 1, 1, 0, 0]), (1, [2])].map (toItem (Tryz.f21.body.getD .skip))) [(1, .pointer (some ⟨d, 0, none⟩)), (3, .int .i64 i)] w := by
  exact block_spec Tryz.func21 Tryz.mixed (stops_cons (fun σ w h => by
      obtain ⟨d_, e0, h⟩ := dK_elim h
      obtain ⟨i_, e1, h⟩ := dI_elim h
      exact (hN2 d_ i_ w h).weaken (Sub.cons (Sub.cons (Sub.nil _) e1) e0)) stops_nil) (Eq.mp (nodelaw_Spoil.L2b_eq d i w  N2 R ) h)
def nodelaw_Spoil.L2 (d : Nat) (i : Int) (w : World)  (R : World → Prop) : Prop :=
  ∃ (I : Nat → Nat → Int → World → Prop) (m : Nat), I m d i w ∧ ∀ m d i w, I m d i w → nodelaw_Spoil.L2b d i w  (fun d' i' w' => ∃ m', m' < m ∧ I m' d' i' w') R
theorem nodelaw_Spoil.L2_sound {R : World → Prop}  (d : Nat) (i : Int) (w : World) (h : nodelaw_Spoil.L2 d i w  R) :
    KW Tryz.prog 21 28 (nodelaw_Spoil.RV R) ([(0, [1, 1, 1, 0, 0]), (2, [1, 1, 1, 0, 0]), (1, [2])].map (toItem (Tryz.f21.body.getD .skip))) [(1, .pointer (some ⟨d, 0, none⟩)), (3, .int .i64 i)] w := by
  obtain ⟨I, m, hBase, hr⟩ := h
  refine KW.loop (fun m σ w => ∃ (d : Nat) (i : Int), σ = [(1, .pointer (some ⟨d, 0, none⟩)), (3, .int .i64 i)] ∧ I m d i w) ?_ m _ w ⟨d, i, rfl, hBase⟩
  rintro m ih σ w ⟨d, i, rfl, hI⟩
  exact nodelaw_Spoil.L2b_sound  (N2 := fun d' i' w' => ∃ m', m' < m ∧ I m' d' i' w') (fun d' i' w' hx => by obtain ⟨m', hlt, hI'⟩ := hx; exact ih m' hlt _ w' ⟨d', i', rfl, hI'⟩) d i w (hr m d i w hI)
def nodelaw_Spoil.L1b (d : Nat) (i : Int) (w : World)  (N1 : Nat → Int → World → Prop) (R : World → Prop) : Prop :=
  LdL ⟨d, 1, none⟩ w fun x6_b x6_l x6_c =>
  Bm (decide (i < ((x6_l : Nat) : Int))) (
    LdL ⟨d, 1, none⟩ w fun x12_b x12_l x12_c =>
    Pn x12_b fun a =>
    (0 ≤ i ∧ i < ((x12_l : Nat) : Int)) ∧
    Sts [.int .i64 (-7 : Int), .string (ByteArray.mk #[120])] (Addr.add a (i.toNat * 2)) 0 w fun w1 =>
    N1 d (IntKind.i64.wrap (i + (1 : Int))) w1) (
    nodelaw_Spoil.L2 d (0 : Int) w  R)
theorem nodelaw_Spoil.L1b_eq (d : Nat) (i : Int) (w : World)  (N1 : Nat → Int → World → Prop) (R : World → Prop) (sL2 : Nat → Int → World → Prop) :
    (
  LdL ⟨d, 1, none⟩ w fun x6_b x6_l x6_c =>
  Bm (decide (i < ((x6_l : Nat) : Int))) (
    LdL ⟨d, 1, none⟩ w fun x12_b x12_l x12_c =>
    Pn x12_b fun a =>
    (0 ≤ i ∧ i < ((x12_l : Nat) : Int)) ∧
    Sts [.int .i64 (-7 : Int), .string (ByteArray.mk #[120])] (Addr.add a (i.toNat * 2)) 0 w fun w1 =>
    N1 d (IntKind.i64.wrap (i + (1 : Int))) w1) (
    sL2 d (0 : Int) w)) = kstep Tryz.prog 28 Tryz.f21.results.toList (Tryz.f21.body.getD .skip) (nodelaw_Spoil.RV R) (kvc Tryz.prog 28 Tryz.f21.results.toList (Tryz.f21.body.getD .skip) (nodelaw_Spoil.RV R) [([(0, [1, 0, 1, 0, 0]), (2, [1, 0, 1, 0, 0]), (1, [0]), (0, [1, 1])], fun σ w => dK (slotOf σ 1) fun d_ => dI .i64 (slotOf σ 2) fun i_ => N1 d_ i_ w),
    ([(0, [1, 1, 1, 0, 0]), (2, [1, 1, 1, 0, 0]), (1, [2])], fun σ w => dK (slotOf σ 1) fun d_ => dI .i64 (slotOf σ 3) fun i_ => sL2 d_ i_ w)] 2000) [(0, [1, 0, 1, 0, 0]), (2, [1, 0, 1, 0, 0]), (1, [0]), (0, [1, 1])] [(1, .pointer (some ⟨d, 0, none⟩)), (2, .int .i64 i)] w := by kernel_rfl
theorem nodelaw_Spoil.L1b_sound {R : World → Prop} {N1 : Nat → Int → World → Prop} (hN1 : ∀ d i w, N1 d i w → KW Tryz.prog 21 28 (nodelaw_Spoil.RV R) ([(0, [1, 0, 1, 0, 0]), (2, [1, 0, 1, 0, 0]), (1, [0]), (0, [1, 1])].map (toItem (Tryz.f21.body.getD .skip))) [(1, .pointer (some ⟨d, 0, none⟩)), (2, .int .i64 i)] w) (d : Nat) (i : Int) (w : World) (h : nodelaw_Spoil.L1b d i w  N1 R) :
    KW Tryz.prog 21 28 (nodelaw_Spoil.RV R) ([(0, [1, 0, 1, 0, 0]), (2, [1, 0, 1, 0, 0]), (1, [0]), (0, [1, 1])].map (toItem (Tryz.f21.body.getD .skip))) [(1, .pointer (some ⟨d, 0, none⟩)), (2, .int .i64 i)] w := by
  exact block_spec Tryz.func21 Tryz.mixed (stops_cons (fun σ w h => by
      obtain ⟨d_, e0, h⟩ := dK_elim h
      obtain ⟨i_, e1, h⟩ := dI_elim h
      exact (hN1 d_ i_ w h).weaken (Sub.cons (Sub.cons (Sub.nil _) e1) e0)) (stops_cons (fun σ w h => by
      obtain ⟨d_, e0, h⟩ := dK_elim h
      obtain ⟨i_, e1, h⟩ := dI_elim h
      exact (nodelaw_Spoil.L2_sound  d_ i_ w h).weaken (Sub.cons (Sub.cons (Sub.nil _) e1) e0)) stops_nil)) (Eq.mp (nodelaw_Spoil.L1b_eq d i w  N1 R (fun d_ i_ w => nodelaw_Spoil.L2 d_ i_ w  R)) h)
def nodelaw_Spoil.L1 (d : Nat) (i : Int) (w : World)  (R : World → Prop) : Prop :=
  ∃ (I : Nat → Nat → Int → World → Prop) (m : Nat), I m d i w ∧ ∀ m d i w, I m d i w → nodelaw_Spoil.L1b d i w  (fun d' i' w' => ∃ m', m' < m ∧ I m' d' i' w') R
theorem nodelaw_Spoil.L1_sound {R : World → Prop}  (d : Nat) (i : Int) (w : World) (h : nodelaw_Spoil.L1 d i w  R) :
    KW Tryz.prog 21 28 (nodelaw_Spoil.RV R) ([(0, [1, 0, 1, 0, 0]), (2, [1, 0, 1, 0, 0]), (1, [0]), (0, [1, 1])].map (toItem (Tryz.f21.body.getD .skip))) [(1, .pointer (some ⟨d, 0, none⟩)), (2, .int .i64 i)] w := by
  obtain ⟨I, m, hBase, hr⟩ := h
  refine KW.loop (fun m σ w => ∃ (d : Nat) (i : Int), σ = [(1, .pointer (some ⟨d, 0, none⟩)), (2, .int .i64 i)] ∧ I m d i w) ?_ m _ w ⟨d, i, rfl, hBase⟩
  rintro m ih σ w ⟨d, i, rfl, hI⟩
  exact nodelaw_Spoil.L1b_sound  (N1 := fun d' i' w' => ∃ m', m' < m ∧ I m' d' i' w') (fun d' i' w' hx => by obtain ⟨m', hlt, hI'⟩ := hx; exact ih m' hlt _ w' ⟨d', i', rfl, hI'⟩) d i w (hr m d i w hI)
def nodelaw_Spoil.B0 (d_0 : Int) (d_1_b : Option Addr) (d_1_l d_1_c : Nat) (d_2_b : Option Addr) (d_2_l d_2_c : Nat) (w : World)   (R : World → Prop) : Prop :=
  New (.cells #[.int .i64 d_0, .slice d_1_b d_1_l d_1_c, .slice d_2_b d_2_l d_2_c] 42) w fun d_ w1 =>
  nodelaw_Spoil.L1 d_ (0 : Int) w1  R
theorem nodelaw_Spoil.B0_eq (d_0 : Int) (d_1_b : Option Addr) (d_1_l d_1_c : Nat) (d_2_b : Option Addr) (d_2_l d_2_c : Nat) (w : World)   (R : World → Prop) (sL1 : Nat → Int → World → Prop) :
    (
  New (.cells #[.int .i64 d_0, .slice d_1_b d_1_l d_1_c, .slice d_2_b d_2_l d_2_c] 42) w fun d_ w1 =>
  sL1 d_ (0 : Int) w1) = kstep Tryz.prog 28 Tryz.f21.results.toList (Tryz.f21.body.getD .skip) (nodelaw_Spoil.RV R) (kvc Tryz.prog 28 Tryz.f21.results.toList (Tryz.f21.body.getD .skip) (nodelaw_Spoil.RV R) [([(0, [1, 0, 1, 0, 0]), (2, [1, 0, 1, 0, 0]), (1, [0]), (0, [1, 1])], fun σ w => dK (slotOf σ 1) fun d_ => dI .i64 (slotOf σ 2) fun i_ => sL1 d_ i_ w)] 2000) [(0, [])] [(0, .agg #[.int .i64 d_0, .slice d_1_b d_1_l d_1_c, .slice d_2_b d_2_l d_2_c])] w := by kernel_rfl
theorem nodelaw_Spoil.B0_sound {R : World → Prop}  (d_0 : Int) (d_1_b : Option Addr) (d_1_l d_1_c : Nat) (d_2_b : Option Addr) (d_2_l d_2_c : Nat) (w : World) (h : nodelaw_Spoil.B0 d_0 d_1_b d_1_l d_1_c d_2_b d_2_l d_2_c w   R) :
    KW Tryz.prog 21 28 (nodelaw_Spoil.RV R) ([(0, [])].map (toItem (Tryz.f21.body.getD .skip))) [(0, .agg #[.int .i64 d_0, .slice d_1_b d_1_l d_1_c, .slice d_2_b d_2_l d_2_c])] w := by
  exact block_spec Tryz.func21 Tryz.mixed (stops_cons (fun σ w h => by
      obtain ⟨d_, e0, h⟩ := dK_elim h
      obtain ⟨i_, e1, h⟩ := dI_elim h
      exact (nodelaw_Spoil.L1_sound  d_ i_ w h).weaken (Sub.cons (Sub.cons (Sub.nil _) e1) e0)) stops_nil) (Eq.mp (nodelaw_Spoil.B0_eq d_0 d_1_b d_1_l d_1_c d_2_b d_2_l d_2_c w   R (fun d_ i_ w => nodelaw_Spoil.L1 d_ i_ w  R)) h)
theorem nodelaw_Spoil.sound (d_0 : Int) (d_1_b : Option Addr) (d_1_l d_1_c : Nat) (d_2_b : Option Addr) (d_2_l d_2_c : Nat) (w : World) (R : World → Prop) (h : nodelaw_Spoil.B0 d_0 d_1_b d_1_l d_1_c d_2_b d_2_l d_2_c w R) : nodelaw_Spoil.Call d_0 d_1_b d_1_l d_1_c d_2_b d_2_l d_2_c w R := by
  have hc := calls_of_block (args := #[.agg #[.int .i64 d_0, .slice d_1_b d_1_l d_1_c, .slice d_2_b d_2_l d_2_c]]) Tryz.func21 (body := (Tryz.f21.body.getD .skip)) (by kernel_rfl) (by kernel_rfl) (args_slot _) (nodelaw_Spoil.B0_sound d_0 d_1_b d_1_l d_1_c d_2_b d_2_l d_2_c w h)
  exact hc.mono fun e w' he => by
    obtain ⟨v, rfl, hv⟩ := he
    exact nodelaw_Spoil.RV_elim hv
def nodelaw_Look.B0 (x m0 : Option Addr) (o_0 o_1 o_2 o_3 : Int) (o_4 o_5 : ByteArray) (w : World)   (R : Bool → World → Prop) : Prop :=
  New (.cells #[.int .i64 o_0, .int .i64 o_1, .int .i64 o_2, .int .i64 o_3, .string o_4, .string o_5] 47) w fun o_ w1 =>
  LdI .i64 ⟨o_, 0, none⟩ w1 fun x10 =>
  Bm (x10 == (6 : Int)) (
    LdI .i64 ⟨o_, 1, none⟩ w1 fun x16 =>
    nodelaw_SameAt.Call x m0 x16 w1 fun r17 w2 =>
    R r17 w2) (
    Bm (x10 == (7 : Int)) (
      LdI .i64 ⟨o_, 1, none⟩ w1 fun x23 =>
      nodelaw_SameTermAt.Call x m0 x23 w1 fun r24 w3 =>
      R r24 w3) (
      Bm (x10 == (8 : Int)) (
        LdS ⟨o_, 4, none⟩ w1 fun x30 =>
        nodelaw_SameVal.Call x m0 x30 w1 fun r31 w4 =>
        R r31 w4) (
        Bm (x10 == (21 : Int)) (
          nodelaw_SameView.Call x m0 w1 fun r36 w5 =>
          R r36 w5) (
          Bm (x10 == (22 : Int)) (
            nodelaw_SameLen.Call x m0 w1 fun r41 w6 =>
            R r41 w6) (
            Bm (x10 == (23 : Int)) (
              LdI .i64 ⟨o_, 1, none⟩ w1 fun x47 =>
              nodelaw_SameKeyAt.Call x m0 x47 w1 fun r48 w7 =>
              R r48 w7) (
              Bm (x10 == (24 : Int)) (
                LdI .i64 ⟨o_, 1, none⟩ w1 fun x54 =>
                nodelaw_SameSess.Call x m0 x54 w1 fun r55 w8 =>
                R r55 w8) (
                Bm (x10 == (25 : Int)) (
                  node_Node_Check.Call x w1 fun r59 w9 =>
                  R (r59.toList == (ByteArray.mk #[]).toList) w9) (
                  Bm (x10 == (9 : Int)) (
                    LdI .i64 ⟨o_, 0, none⟩ w1 fun x63_0 =>
                    LdI .i64 ⟨o_, 1, none⟩ w1 fun x63_1 =>
                    LdI .i64 ⟨o_, 2, none⟩ w1 fun x63_2 =>
                    LdI .i64 ⟨o_, 3, none⟩ w1 fun x63_3 =>
                    LdS ⟨o_, 4, none⟩ w1 fun x63_4 =>
                    LdS ⟨o_, 5, none⟩ w1 fun x63_5 =>
                    nodelaw_MsgOf.Call x63_0 x63_1 x63_2 x63_3 x63_4 x63_5 w1 fun r64_0 r64_1 r64_2 r64_3 r64_4 r64_5 r64_6 r64_7 r64_8_b r64_8_l r64_8_c r64_9 w10 =>
                    New (.cells #[.int .i64 (0 : Int), .int .i64 (0 : Int), .int .i64 (0 : Int), .int .i64 (0 : Int), .int .i64 (0 : Int), .int .i64 (0 : Int), .int .i64 (0 : Int), .bool false, .slice none 0 0, .string (ByteArray.mk #[])] 101) w10 fun g_ w11 =>
                    Sts [.int .i64 r64_0, .int .i64 r64_1, .int .i64 r64_2, .int .i64 r64_3, .int .i64 r64_4, .int .i64 r64_5, .int .i64 r64_6, .bool r64_7, .slice r64_8_b r64_8_l r64_8_c, .string r64_9] ⟨g_, 0, none⟩ 0 w11 fun w12 =>
                    LdI .i64 ⟨o_, 0, none⟩ w12 fun x65_0 =>
                    LdI .i64 ⟨o_, 1, none⟩ w12 fun x65_1 =>
                    LdI .i64 ⟨o_, 2, none⟩ w12 fun x65_2 =>
                    LdI .i64 ⟨o_, 3, none⟩ w12 fun x65_3 =>
                    LdS ⟨o_, 4, none⟩ w12 fun x65_4 =>
                    LdS ⟨o_, 5, none⟩ w12 fun x65_5 =>
                    nodelaw_MsgOf.Call x65_0 x65_1 x65_2 x65_3 x65_4 x65_5 w12 fun r66_0 r66_1 r66_2 r66_3 r66_4 r66_5 r66_6 r66_7 r66_8_b r66_8_l r66_8_c r66_9 w13 =>
                    New (.cells #[.int .i64 (0 : Int), .int .i64 (0 : Int), .int .i64 (0 : Int), .int .i64 (0 : Int), .int .i64 (0 : Int), .int .i64 (0 : Int), .int .i64 (0 : Int), .bool false, .slice none 0 0, .string (ByteArray.mk #[])] 101) w13 fun h0_ w14 =>
                    Sts [.int .i64 r66_0, .int .i64 r66_1, .int .i64 r66_2, .int .i64 r66_3, .int .i64 r66_4, .int .i64 r66_5, .int .i64 r66_6, .bool r66_7, .slice r66_8_b r66_8_l r66_8_c, .string r66_9] ⟨h0_, 0, none⟩ 0 w14 fun w15 =>
                    LdI .i64 ⟨g_, 0, none⟩ w15 fun x67_0 =>
                    LdI .i64 ⟨g_, 1, none⟩ w15 fun x67_1 =>
                    LdI .i64 ⟨g_, 2, none⟩ w15 fun x67_2 =>
                    LdI .i64 ⟨g_, 3, none⟩ w15 fun x67_3 =>
                    LdI .i64 ⟨g_, 4, none⟩ w15 fun x67_4 =>
                    LdI .i64 ⟨g_, 5, none⟩ w15 fun x67_5 =>
                    LdI .i64 ⟨g_, 6, none⟩ w15 fun x67_6 =>
                    LdB ⟨g_, 7, none⟩ w15 fun x67_7 =>
                    LdL ⟨g_, 8, none⟩ w15 fun x67_8_b x67_8_l x67_8_c =>
                    LdS ⟨g_, 9, none⟩ w15 fun x67_9 =>
                    LdI .i64 ⟨h0_, 0, none⟩ w15 fun x68_0 =>
                    LdI .i64 ⟨h0_, 1, none⟩ w15 fun x68_1 =>
                    LdI .i64 ⟨h0_, 2, none⟩ w15 fun x68_2 =>
                    LdI .i64 ⟨h0_, 3, none⟩ w15 fun x68_3 =>
                    LdI .i64 ⟨h0_, 4, none⟩ w15 fun x68_4 =>
                    LdI .i64 ⟨h0_, 5, none⟩ w15 fun x68_5 =>
                    LdI .i64 ⟨h0_, 6, none⟩ w15 fun x68_6 =>
                    LdB ⟨h0_, 7, none⟩ w15 fun x68_7 =>
                    LdL ⟨h0_, 8, none⟩ w15 fun x68_8_b x68_8_l x68_8_c =>
                    LdS ⟨h0_, 9, none⟩ w15 fun x68_9 =>
                    nodelaw_SameEncode.Call x67_0 x67_1 x67_2 x67_3 x67_4 x67_5 x67_6 x67_7 x67_8_b x67_8_l x67_8_c x67_9 x68_0 x68_1 x68_2 x68_3 x68_4 x68_5 x68_6 x68_7 x68_8_b x68_8_l x68_8_c x68_9 w15 fun r69 w16 =>
                    R r69 w16) (
                    R true w1)))))))))
theorem nodelaw_Look.B0_eq (x m0 : Option Addr) (o_0 o_1 o_2 o_3 : Int) (o_4 o_5 : ByteArray) (w : World)   (R : Bool → World → Prop)  :
    (
  New (.cells #[.int .i64 o_0, .int .i64 o_1, .int .i64 o_2, .int .i64 o_3, .string o_4, .string o_5] 47) w fun o_ w1 =>
  LdI .i64 ⟨o_, 0, none⟩ w1 fun x10 =>
  Bm (x10 == (6 : Int)) (
    LdI .i64 ⟨o_, 1, none⟩ w1 fun x16 =>
    nodelaw_SameAt.Call x m0 x16 w1 fun r17 w2 =>
    R r17 w2) (
    Bm (x10 == (7 : Int)) (
      LdI .i64 ⟨o_, 1, none⟩ w1 fun x23 =>
      nodelaw_SameTermAt.Call x m0 x23 w1 fun r24 w3 =>
      R r24 w3) (
      Bm (x10 == (8 : Int)) (
        LdS ⟨o_, 4, none⟩ w1 fun x30 =>
        nodelaw_SameVal.Call x m0 x30 w1 fun r31 w4 =>
        R r31 w4) (
        Bm (x10 == (21 : Int)) (
          nodelaw_SameView.Call x m0 w1 fun r36 w5 =>
          R r36 w5) (
          Bm (x10 == (22 : Int)) (
            nodelaw_SameLen.Call x m0 w1 fun r41 w6 =>
            R r41 w6) (
            Bm (x10 == (23 : Int)) (
              LdI .i64 ⟨o_, 1, none⟩ w1 fun x47 =>
              nodelaw_SameKeyAt.Call x m0 x47 w1 fun r48 w7 =>
              R r48 w7) (
              Bm (x10 == (24 : Int)) (
                LdI .i64 ⟨o_, 1, none⟩ w1 fun x54 =>
                nodelaw_SameSess.Call x m0 x54 w1 fun r55 w8 =>
                R r55 w8) (
                Bm (x10 == (25 : Int)) (
                  node_Node_Check.Call x w1 fun r59 w9 =>
                  R (r59.toList == (ByteArray.mk #[]).toList) w9) (
                  Bm (x10 == (9 : Int)) (
                    LdI .i64 ⟨o_, 0, none⟩ w1 fun x63_0 =>
                    LdI .i64 ⟨o_, 1, none⟩ w1 fun x63_1 =>
                    LdI .i64 ⟨o_, 2, none⟩ w1 fun x63_2 =>
                    LdI .i64 ⟨o_, 3, none⟩ w1 fun x63_3 =>
                    LdS ⟨o_, 4, none⟩ w1 fun x63_4 =>
                    LdS ⟨o_, 5, none⟩ w1 fun x63_5 =>
                    nodelaw_MsgOf.Call x63_0 x63_1 x63_2 x63_3 x63_4 x63_5 w1 fun r64_0 r64_1 r64_2 r64_3 r64_4 r64_5 r64_6 r64_7 r64_8_b r64_8_l r64_8_c r64_9 w10 =>
                    New (.cells #[.int .i64 (0 : Int), .int .i64 (0 : Int), .int .i64 (0 : Int), .int .i64 (0 : Int), .int .i64 (0 : Int), .int .i64 (0 : Int), .int .i64 (0 : Int), .bool false, .slice none 0 0, .string (ByteArray.mk #[])] 101) w10 fun g_ w11 =>
                    Sts [.int .i64 r64_0, .int .i64 r64_1, .int .i64 r64_2, .int .i64 r64_3, .int .i64 r64_4, .int .i64 r64_5, .int .i64 r64_6, .bool r64_7, .slice r64_8_b r64_8_l r64_8_c, .string r64_9] ⟨g_, 0, none⟩ 0 w11 fun w12 =>
                    LdI .i64 ⟨o_, 0, none⟩ w12 fun x65_0 =>
                    LdI .i64 ⟨o_, 1, none⟩ w12 fun x65_1 =>
                    LdI .i64 ⟨o_, 2, none⟩ w12 fun x65_2 =>
                    LdI .i64 ⟨o_, 3, none⟩ w12 fun x65_3 =>
                    LdS ⟨o_, 4, none⟩ w12 fun x65_4 =>
                    LdS ⟨o_, 5, none⟩ w12 fun x65_5 =>
                    nodelaw_MsgOf.Call x65_0 x65_1 x65_2 x65_3 x65_4 x65_5 w12 fun r66_0 r66_1 r66_2 r66_3 r66_4 r66_5 r66_6 r66_7 r66_8_b r66_8_l r66_8_c r66_9 w13 =>
                    New (.cells #[.int .i64 (0 : Int), .int .i64 (0 : Int), .int .i64 (0 : Int), .int .i64 (0 : Int), .int .i64 (0 : Int), .int .i64 (0 : Int), .int .i64 (0 : Int), .bool false, .slice none 0 0, .string (ByteArray.mk #[])] 101) w13 fun h0_ w14 =>
                    Sts [.int .i64 r66_0, .int .i64 r66_1, .int .i64 r66_2, .int .i64 r66_3, .int .i64 r66_4, .int .i64 r66_5, .int .i64 r66_6, .bool r66_7, .slice r66_8_b r66_8_l r66_8_c, .string r66_9] ⟨h0_, 0, none⟩ 0 w14 fun w15 =>
                    LdI .i64 ⟨g_, 0, none⟩ w15 fun x67_0 =>
                    LdI .i64 ⟨g_, 1, none⟩ w15 fun x67_1 =>
                    LdI .i64 ⟨g_, 2, none⟩ w15 fun x67_2 =>
                    LdI .i64 ⟨g_, 3, none⟩ w15 fun x67_3 =>
                    LdI .i64 ⟨g_, 4, none⟩ w15 fun x67_4 =>
                    LdI .i64 ⟨g_, 5, none⟩ w15 fun x67_5 =>
                    LdI .i64 ⟨g_, 6, none⟩ w15 fun x67_6 =>
                    LdB ⟨g_, 7, none⟩ w15 fun x67_7 =>
                    LdL ⟨g_, 8, none⟩ w15 fun x67_8_b x67_8_l x67_8_c =>
                    LdS ⟨g_, 9, none⟩ w15 fun x67_9 =>
                    LdI .i64 ⟨h0_, 0, none⟩ w15 fun x68_0 =>
                    LdI .i64 ⟨h0_, 1, none⟩ w15 fun x68_1 =>
                    LdI .i64 ⟨h0_, 2, none⟩ w15 fun x68_2 =>
                    LdI .i64 ⟨h0_, 3, none⟩ w15 fun x68_3 =>
                    LdI .i64 ⟨h0_, 4, none⟩ w15 fun x68_4 =>
                    LdI .i64 ⟨h0_, 5, none⟩ w15 fun x68_5 =>
                    LdI .i64 ⟨h0_, 6, none⟩ w15 fun x68_6 =>
                    LdB ⟨h0_, 7, none⟩ w15 fun x68_7 =>
                    LdL ⟨h0_, 8, none⟩ w15 fun x68_8_b x68_8_l x68_8_c =>
                    LdS ⟨h0_, 9, none⟩ w15 fun x68_9 =>
                    nodelaw_SameEncode.Call x67_0 x67_1 x67_2 x67_3 x67_4 x67_5 x67_6 x67_7 x67_8_b x67_8_l x67_8_c x67_9 x68_0 x68_1 x68_2 x68_3 x68_4 x68_5 x68_6 x68_7 x68_8_b x68_8_l x68_8_c x68_9 w15 fun r69 w16 =>
                    R r69 w16) (
                    R true w1)))))))))) = kstep Tryz.prog 70 Tryz.f22.results.toList (Tryz.f22.body.getD .skip) (nodelaw_Look.RV R) (kvc Tryz.prog 70 Tryz.f22.results.toList (Tryz.f22.body.getD .skip) (nodelaw_Look.RV R) [] 2000) [(0, [])] [(0, .pointer x), (1, .pointer m0), (2, .agg #[.int .i64 o_0, .int .i64 o_1, .int .i64 o_2, .int .i64 o_3, .string o_4, .string o_5])] w := by kernel_rfl
theorem nodelaw_Look.B0_sound {R : Bool → World → Prop}  (x m0 : Option Addr) (o_0 o_1 o_2 o_3 : Int) (o_4 o_5 : ByteArray) (w : World) (h : nodelaw_Look.B0 x m0 o_0 o_1 o_2 o_3 o_4 o_5 w   R) :
    KW Tryz.prog 22 70 (nodelaw_Look.RV R) ([(0, [])].map (toItem (Tryz.f22.body.getD .skip))) [(0, .pointer x), (1, .pointer m0), (2, .agg #[.int .i64 o_0, .int .i64 o_1, .int .i64 o_2, .int .i64 o_3, .string o_4, .string o_5])] w := by
  exact block_spec Tryz.func22 Tryz.mixed stops_nil (Eq.mp (nodelaw_Look.B0_eq x m0 o_0 o_1 o_2 o_3 o_4 o_5 w   R ) h)
theorem nodelaw_Look.sound (x m0 : Option Addr) (o_0 o_1 o_2 o_3 : Int) (o_4 o_5 : ByteArray) (w : World) (R : Bool → World → Prop) (h : nodelaw_Look.B0 x m0 o_0 o_1 o_2 o_3 o_4 o_5 w R) : nodelaw_Look.Call x m0 o_0 o_1 o_2 o_3 o_4 o_5 w R := by
  have hc := calls_of_block (args := #[.pointer x, .pointer m0, .agg #[.int .i64 o_0, .int .i64 o_1, .int .i64 o_2, .int .i64 o_3, .string o_4, .string o_5]]) Tryz.func22 (body := (Tryz.f22.body.getD .skip)) (by kernel_rfl) (by kernel_rfl) (args_slot _) (nodelaw_Look.B0_sound x m0 o_0 o_1 o_2 o_3 o_4 o_5 w h)
  exact hc.mono fun e w' he => by
    obtain ⟨v, rfl, hv⟩ := he
    exact nodelaw_Look.RV_elim hv
def nodelaw_Idle.B0 (b_0 b_1 : Option Addr) (b_2 : Int) (m0 : Option Addr) (w : World)   (R : Bool → World → Prop) : Prop :=
  New (.cells #[.pointer b_0, .pointer b_1, .int .i64 b_2] 30) w fun b_ w1 =>
  nodem_Node_Steps.Call m0 w1 fun r6 w2 =>
  Bm (r6 != (0 : Int)) (
    R true w2) (
    LdP ⟨b_, 0, none⟩ w2 fun x8_0 =>
    LdP ⟨b_, 1, none⟩ w2 fun x8_1 =>
    LdI .i64 ⟨b_, 2, none⟩ w2 fun x8_2 =>
    nodelaw_Steps.Call x8_0 x8_1 x8_2 w2 fun r9 w3 =>
    R (r9 == (0 : Int)) w3)
theorem nodelaw_Idle.B0_eq (b_0 b_1 : Option Addr) (b_2 : Int) (m0 : Option Addr) (w : World)   (R : Bool → World → Prop)  :
    (
  New (.cells #[.pointer b_0, .pointer b_1, .int .i64 b_2] 30) w fun b_ w1 =>
  nodem_Node_Steps.Call m0 w1 fun r6 w2 =>
  Bm (r6 != (0 : Int)) (
    R true w2) (
    LdP ⟨b_, 0, none⟩ w2 fun x8_0 =>
    LdP ⟨b_, 1, none⟩ w2 fun x8_1 =>
    LdI .i64 ⟨b_, 2, none⟩ w2 fun x8_2 =>
    nodelaw_Steps.Call x8_0 x8_1 x8_2 w2 fun r9 w3 =>
    R (r9 == (0 : Int)) w3)) = kstep Tryz.prog 11 Tryz.f23.results.toList (Tryz.f23.body.getD .skip) (nodelaw_Idle.RV R) (kvc Tryz.prog 11 Tryz.f23.results.toList (Tryz.f23.body.getD .skip) (nodelaw_Idle.RV R) [] 2000) [(0, [])] [(0, .agg #[.pointer b_0, .pointer b_1, .int .i64 b_2]), (1, .pointer m0)] w := by kernel_rfl
theorem nodelaw_Idle.B0_sound {R : Bool → World → Prop}  (b_0 b_1 : Option Addr) (b_2 : Int) (m0 : Option Addr) (w : World) (h : nodelaw_Idle.B0 b_0 b_1 b_2 m0 w   R) :
    KW Tryz.prog 23 11 (nodelaw_Idle.RV R) ([(0, [])].map (toItem (Tryz.f23.body.getD .skip))) [(0, .agg #[.pointer b_0, .pointer b_1, .int .i64 b_2]), (1, .pointer m0)] w := by
  exact block_spec Tryz.func23 Tryz.mixed stops_nil (Eq.mp (nodelaw_Idle.B0_eq b_0 b_1 b_2 m0 w   R ) h)
theorem nodelaw_Idle.sound (b_0 b_1 : Option Addr) (b_2 : Int) (m0 : Option Addr) (w : World) (R : Bool → World → Prop) (h : nodelaw_Idle.B0 b_0 b_1 b_2 m0 w R) : nodelaw_Idle.Call b_0 b_1 b_2 m0 w R := by
  have hc := calls_of_block (args := #[.agg #[.pointer b_0, .pointer b_1, .int .i64 b_2], .pointer m0]) Tryz.func23 (body := (Tryz.f23.body.getD .skip)) (by kernel_rfl) (by kernel_rfl) (args_slot _) (nodelaw_Idle.B0_sound b_0 b_1 b_2 m0 w h)
  exact hc.mono fun e w' he => by
    obtain ⟨v, rfl, hv⟩ := he
    exact nodelaw_Idle.RV_elim hv
def nodelaw_After.B0 (b_0 b_1 : Option Addr) (b_2 k : Int) (w : World)   (R : Option Addr → Option Addr → Int → World → Prop) : Prop :=
  New (.cells #[.pointer b_0, .pointer b_1, .int .i64 b_2] 30) w fun b_ w1 =>
  New (.cells #[.pointer none, .pointer none, .int .i64 (0 : Int)] 30) w1 fun b4 w2 =>
  LdP ⟨b_, 0, none⟩ w2 fun x7 =>
  diskm_Disk_After.Call x7 k w2 fun r9 w3 =>
  diskm_Disk_Mark.Call r9 w3 fun w4 =>
  LdI .i64 ⟨b_, 2, none⟩ w4 fun x14 =>
  nodelaw_raise.Call r9 x14 w4 fun r15_0 r15_1 r15_2 w5 =>
  Sts [.pointer r15_0, .pointer r15_1, .int .i64 r15_2] ⟨b4, 0, none⟩ 0 w5 fun w6 =>
  LdP ⟨b4, 0, none⟩ w6 fun r_0 =>
  LdP ⟨b4, 1, none⟩ w6 fun r_1 =>
  LdI .i64 ⟨b4, 2, none⟩ w6 fun r_2 =>
  R r_0 r_1 r_2 w6
theorem nodelaw_After.B0_eq (b_0 b_1 : Option Addr) (b_2 k : Int) (w : World)   (R : Option Addr → Option Addr → Int → World → Prop)  :
    (
  New (.cells #[.pointer b_0, .pointer b_1, .int .i64 b_2] 30) w fun b_ w1 =>
  New (.cells #[.pointer none, .pointer none, .int .i64 (0 : Int)] 30) w1 fun b4 w2 =>
  LdP ⟨b_, 0, none⟩ w2 fun x7 =>
  diskm_Disk_After.Call x7 k w2 fun r9 w3 =>
  diskm_Disk_Mark.Call r9 w3 fun w4 =>
  LdI .i64 ⟨b_, 2, none⟩ w4 fun x14 =>
  nodelaw_raise.Call r9 x14 w4 fun r15_0 r15_1 r15_2 w5 =>
  Sts [.pointer r15_0, .pointer r15_1, .int .i64 r15_2] ⟨b4, 0, none⟩ 0 w5 fun w6 =>
  LdP ⟨b4, 0, none⟩ w6 fun r_0 =>
  LdP ⟨b4, 1, none⟩ w6 fun r_1 =>
  LdI .i64 ⟨b4, 2, none⟩ w6 fun r_2 =>
  R r_0 r_1 r_2 w6) = kstep Tryz.prog 16 Tryz.f24.results.toList (Tryz.f24.body.getD .skip) (nodelaw_After.RV R) (kvc Tryz.prog 16 Tryz.f24.results.toList (Tryz.f24.body.getD .skip) (nodelaw_After.RV R) [] 2000) [(0, [])] [(0, .agg #[.pointer b_0, .pointer b_1, .int .i64 b_2]), (1, .int .i64 k)] w := by kernel_rfl
theorem nodelaw_After.B0_sound {R : Option Addr → Option Addr → Int → World → Prop}  (b_0 b_1 : Option Addr) (b_2 k : Int) (w : World) (h : nodelaw_After.B0 b_0 b_1 b_2 k w   R) :
    KW Tryz.prog 24 16 (nodelaw_After.RV R) ([(0, [])].map (toItem (Tryz.f24.body.getD .skip))) [(0, .agg #[.pointer b_0, .pointer b_1, .int .i64 b_2]), (1, .int .i64 k)] w := by
  exact block_spec Tryz.func24 Tryz.mixed stops_nil (Eq.mp (nodelaw_After.B0_eq b_0 b_1 b_2 k w   R ) h)
theorem nodelaw_After.sound (b_0 b_1 : Option Addr) (b_2 k : Int) (w : World) (R : Option Addr → Option Addr → Int → World → Prop) (h : nodelaw_After.B0 b_0 b_1 b_2 k w R) : nodelaw_After.Call b_0 b_1 b_2 k w R := by
  have hc := calls_of_block (args := #[.agg #[.pointer b_0, .pointer b_1, .int .i64 b_2], .int .i64 k]) Tryz.func24 (body := (Tryz.f24.body.getD .skip)) (by kernel_rfl) (by kernel_rfl) (args_slot _) (nodelaw_After.B0_sound b_0 b_1 b_2 k w h)
  exact hc.mono fun e w' he => by
    obtain ⟨v, rfl, hv⟩ := he
    exact nodelaw_After.RV_elim hv
def node_Open.B0 (sy ks : Option Addr) (w : World)   (R : Option Addr → World → Prop) : Prop :=
  sync_Sync_View.Call sy w fun r8 w1 =>
  Pn r8 fun a =>
  LdI .i64 a w1 fun x14 =>
  New (.cells #[.int .u8 (0 : Int), .int .u8 (0 : Int), .int .u8 (0 : Int), .int .u8 (0 : Int), .int .u8 (0 : Int), .int .u8 (0 : Int), .int .u8 (0 : Int), .int .u8 (0 : Int), .int .u8 (0 : Int), .int .u8 (0 : Int), .int .u8 (0 : Int), .int .u8 (0 : Int), .int .u8 (0 : Int), .int .u8 (0 : Int), .int .u8 (0 : Int), .int .u8 (0 : Int), .int .u8 (0 : Int), .int .u8 (0 : Int), .int .u8 (0 : Int), .int .u8 (0 : Int), .int .u8 (0 : Int), .int .u8 (0 : Int), .int .u8 (0 : Int), .int .u8 (0 : Int), .int .u8 (0 : Int), .int .u8 (0 : Int), .int .u8 (0 : Int), .int .u8 (0 : Int), .int .u8 (0 : Int), .int .u8 (0 : Int), .int .u8 (0 : Int), .int .u8 (0 : Int), .int .u8 (0 : Int), .int .u8 (0 : Int), .int .u8 (0 : Int), .int .u8 (0 : Int), .int .u8 (0 : Int), .int .u8 (0 : Int), .int .u8 (0 : Int), .int .u8 (0 : Int), .int .u8 (0 : Int), .int .u8 (0 : Int), .int .u8 (0 : Int), .int .u8 (0 : Int), .int .u8 (0 : Int), .int .u8 (0 : Int), .int .u8 (0 : Int), .int .u8 (0 : Int), .int .u8 (0 : Int), .int .u8 (0 : Int), .int .u8 (0 : Int), .int .u8 (0 : Int), .int .u8 (0 : Int), .int .u8 (0 : Int), .int .u8 (0 : Int), .int .u8 (0 : Int), .int .u8 (0 : Int), .int .u8 (0 : Int), .int .u8 (0 : Int), .int .u8 (0 : Int), .int .u8 (0 : Int), .int .u8 (0 : Int), .int .u8 (0 : Int), .int .u8 (0 : Int), .int .u8 (0 : Int), .int .u8 (0 : Int), .int .u8 (0 : Int), .int .u8 (0 : Int), .int .u8 (0 : Int), .int .u8 (0 : Int), .int .u8 (0 : Int), .int .u8 (0 : Int), .int .u8 (0 : Int), .int .u8 (0 : Int), .int .u8 (0 : Int), .int .u8 (0 : Int), .int .u8 (0 : Int), .int .u8 (0 : Int), .int .u8 (0 : Int), .int .u8 (0 : Int), .int .u8 (0 : Int), .int .u8 (0 : Int), .int .u8 (0 : Int), .int .u8 (0 : Int), .int .u8 (0 : Int), .int .u8 (0 : Int), .int .u8 (0 : Int), .int .u8 (0 : Int), .int .u8 (0 : Int), .int .u8 (0 : Int), .int .u8 (0 : Int), .int .u8 (0 : Int), .int .u8 (0 : Int), .int .u8 (0 : Int), .int .u8 (0 : Int), .int .u8 (0 : Int), .int .u8 (0 : Int), .int .u8 (0 : Int), .int .u8 (0 : Int), .int .u8 (0 : Int), .int .u8 (0 : Int), .int .u8 (0 : Int), .int .u8 (0 : Int), .int .u8 (0 : Int), .int .u8 (0 : Int), .int .u8 (0 : Int), .int .u8 (0 : Int), .int .u8 (0 : Int), .int .u8 (0 : Int), .int .u8 (0 : Int), .int .u8 (0 : Int), .int .u8 (0 : Int), .int .u8 (0 : Int), .int .u8 (0 : Int), .int .u8 (0 : Int), .int .u8 (0 : Int), .int .u8 (0 : Int), .int .u8 (0 : Int), .int .u8 (0 : Int), .int .u8 (0 : Int), .int .u8 (0 : Int), .int .u8 (0 : Int), .int .u8 (0 : Int), .int .u8 (0 : Int), .int .u8 (0 : Int), .int .u8 (0 : Int), .int .u8 (0 : Int), .int .u8 (0 : Int), .int .u8 (0 : Int), .int .u8 (0 : Int), .int .u8 (0 : Int), .int .u8 (0 : Int), .int .u8 (0 : Int), .int .u8 (0 : Int), .int .u8 (0 : Int), .int .u8 (0 : Int), .int .u8 (0 : Int), .int .u8 (0 : Int), .int .u8 (0 : Int), .int .u8 (0 : Int), .int .u8 (0 : Int), .int .u8 (0 : Int), .int .u8 (0 : Int), .int .u8 (0 : Int), .int .u8 (0 : Int), .int .u8 (0 : Int), .int .u8 (0 : Int), .int .u8 (0 : Int), .int .u8 (0 : Int), .int .u8 (0 : Int), .int .u8 (0 : Int), .int .u8 (0 : Int), .int .u8 (0 : Int), .int .u8 (0 : Int), .int .u8 (0 : Int), .int .u8 (0 : Int), .int .u8 (0 : Int), .int .u8 (0 : Int), .int .u8 (0 : Int), .int .u8 (0 : Int), .int .u8 (0 : Int), .int .u8 (0 : Int), .int .u8 (0 : Int), .int .u8 (0 : Int), .int .u8 (0 : Int), .int .u8 (0 : Int), .int .u8 (0 : Int), .int .u8 (0 : Int), .int .u8 (0 : Int), .int .u8 (0 : Int), .int .u8 (0 : Int), .int .u8 (0 : Int), .int .u8 (0 : Int), .int .u8 (0 : Int), .int .u8 (0 : Int), .int .u8 (0 : Int), .int .u8 (0 : Int), .int .u8 (0 : Int), .int .u8 (0 : Int), .int .u8 (0 : Int), .int .u8 (0 : Int), .int .u8 (0 : Int), .int .u8 (0 : Int), .int .u8 (0 : Int), .int .u8 (0 : Int), .int .u8 (0 : Int), .int .u8 (0 : Int), .int .u8 (0 : Int), .int .u8 (0 : Int), .int .u8 (0 : Int), .int .u8 (0 : Int), .int .u8 (0 : Int), .int .u8 (0 : Int), .int .u8 (0 : Int), .int .u8 (0 : Int), .int .u8 (0 : Int), .int .u8 (0 : Int), .int .u8 (0 : Int), .int .u8 (0 : Int), .int .u8 (0 : Int), .int .u8 (0 : Int), .int .u8 (0 : Int), .int .u8 (0 : Int), .int .u8 (0 : Int), .int .u8 (0 : Int), .int .u8 (0 : Int), .int .u8 (0 : Int), .int .u8 (0 : Int), .int .u8 (0 : Int), .int .u8 (0 : Int), .int .u8 (0 : Int), .int .u8 (0 : Int), .int .u8 (0 : Int), .int .u8 (0 : Int), .int .u8 (0 : Int), .int .u8 (0 : Int), .int .u8 (0 : Int), .int .u8 (0 : Int), .int .u8 (0 : Int), .int .u8 (0 : Int), .int .u8 (0 : Int), .int .u8 (0 : Int), .int .u8 (0 : Int), .int .u8 (0 : Int), .int .u8 (0 : Int), .int .u8 (0 : Int), .int .u8 (0 : Int), .int .u8 (0 : Int), .int .u8 (0 : Int), .int .u8 (0 : Int), .int .u8 (0 : Int), .int .u8 (0 : Int), .int .u8 (0 : Int), .int .u8 (0 : Int), .int .i64 (0 : Int), .int .i64 (0 : Int)] 112) w1 fun b16 w2 =>
  New (.cells #[.pointer sy, .pointer ks, .int .i64 x14, .int .i64 (0 : Int), .bool false, .bool false, .bool false, .int .i64 (0 : Int), .int .i64 (0 : Int), .int .i64 (0 : Int), .int .i64 (0 : Int), .int .i64 (0 : Int), .int .i64 (0 : Int), .int .i64 (0 : Int), .int .i64 (0 : Int), .int .i64 (0 : Int), .string (ByteArray.mk #[]), .int .i64 (0 : Int), .int .i64 (0 : Int), .int .i64 (0 : Int), .string (ByteArray.mk #[]), .int .i64 (0 : Int), .int .i64 (0 : Int), .int .i64 (0 : Int), .string (ByteArray.mk #[]), .int .i64 (0 : Int), .pointer (some ⟨b16, 0, none⟩)] 115) w2 fun b18 w3 =>
  node_Node_catchUp.Call (some ⟨b18, 0, none⟩) w3 fun w4 =>
  R (some ⟨b18, 0, none⟩) w4
theorem node_Open.B0_eq (sy ks : Option Addr) (w : World)   (R : Option Addr → World → Prop)  :
    (
  sync_Sync_View.Call sy w fun r8 w1 =>
  Pn r8 fun a =>
  LdI .i64 a w1 fun x14 =>
  New (.cells #[.int .u8 (0 : Int), .int .u8 (0 : Int), .int .u8 (0 : Int), .int .u8 (0 : Int), .int .u8 (0 : Int), .int .u8 (0 : Int), .int .u8 (0 : Int), .int .u8 (0 : Int), .int .u8 (0 : Int), .int .u8 (0 : Int), .int .u8 (0 : Int), .int .u8 (0 : Int), .int .u8 (0 : Int), .int .u8 (0 : Int), .int .u8 (0 : Int), .int .u8 (0 : Int), .int .u8 (0 : Int), .int .u8 (0 : Int), .int .u8 (0 : Int), .int .u8 (0 : Int), .int .u8 (0 : Int), .int .u8 (0 : Int), .int .u8 (0 : Int), .int .u8 (0 : Int), .int .u8 (0 : Int), .int .u8 (0 : Int), .int .u8 (0 : Int), .int .u8 (0 : Int), .int .u8 (0 : Int), .int .u8 (0 : Int), .int .u8 (0 : Int), .int .u8 (0 : Int), .int .u8 (0 : Int), .int .u8 (0 : Int), .int .u8 (0 : Int), .int .u8 (0 : Int), .int .u8 (0 : Int), .int .u8 (0 : Int), .int .u8 (0 : Int), .int .u8 (0 : Int), .int .u8 (0 : Int), .int .u8 (0 : Int), .int .u8 (0 : Int), .int .u8 (0 : Int), .int .u8 (0 : Int), .int .u8 (0 : Int), .int .u8 (0 : Int), .int .u8 (0 : Int), .int .u8 (0 : Int), .int .u8 (0 : Int), .int .u8 (0 : Int), .int .u8 (0 : Int), .int .u8 (0 : Int), .int .u8 (0 : Int), .int .u8 (0 : Int), .int .u8 (0 : Int), .int .u8 (0 : Int), .int .u8 (0 : Int), .int .u8 (0 : Int), .int .u8 (0 : Int), .int .u8 (0 : Int), .int .u8 (0 : Int), .int .u8 (0 : Int), .int .u8 (0 : Int), .int .u8 (0 : Int), .int .u8 (0 : Int), .int .u8 (0 : Int), .int .u8 (0 : Int), .int .u8 (0 : Int), .int .u8 (0 : Int), .int .u8 (0 : Int), .int .u8 (0 : Int), .int .u8 (0 : Int), .int .u8 (0 : Int), .int .u8 (0 : Int), .int .u8 (0 : Int), .int .u8 (0 : Int), .int .u8 (0 : Int), .int .u8 (0 : Int), .int .u8 (0 : Int), .int .u8 (0 : Int), .int .u8 (0 : Int), .int .u8 (0 : Int), .int .u8 (0 : Int), .int .u8 (0 : Int), .int .u8 (0 : Int), .int .u8 (0 : Int), .int .u8 (0 : Int), .int .u8 (0 : Int), .int .u8 (0 : Int), .int .u8 (0 : Int), .int .u8 (0 : Int), .int .u8 (0 : Int), .int .u8 (0 : Int), .int .u8 (0 : Int), .int .u8 (0 : Int), .int .u8 (0 : Int), .int .u8 (0 : Int), .int .u8 (0 : Int), .int .u8 (0 : Int), .int .u8 (0 : Int), .int .u8 (0 : Int), .int .u8 (0 : Int), .int .u8 (0 : Int), .int .u8 (0 : Int), .int .u8 (0 : Int), .int .u8 (0 : Int), .int .u8 (0 : Int), .int .u8 (0 : Int), .int .u8 (0 : Int), .int .u8 (0 : Int), .int .u8 (0 : Int), .int .u8 (0 : Int), .int .u8 (0 : Int), .int .u8 (0 : Int), .int .u8 (0 : Int), .int .u8 (0 : Int), .int .u8 (0 : Int), .int .u8 (0 : Int), .int .u8 (0 : Int), .int .u8 (0 : Int), .int .u8 (0 : Int), .int .u8 (0 : Int), .int .u8 (0 : Int), .int .u8 (0 : Int), .int .u8 (0 : Int), .int .u8 (0 : Int), .int .u8 (0 : Int), .int .u8 (0 : Int), .int .u8 (0 : Int), .int .u8 (0 : Int), .int .u8 (0 : Int), .int .u8 (0 : Int), .int .u8 (0 : Int), .int .u8 (0 : Int), .int .u8 (0 : Int), .int .u8 (0 : Int), .int .u8 (0 : Int), .int .u8 (0 : Int), .int .u8 (0 : Int), .int .u8 (0 : Int), .int .u8 (0 : Int), .int .u8 (0 : Int), .int .u8 (0 : Int), .int .u8 (0 : Int), .int .u8 (0 : Int), .int .u8 (0 : Int), .int .u8 (0 : Int), .int .u8 (0 : Int), .int .u8 (0 : Int), .int .u8 (0 : Int), .int .u8 (0 : Int), .int .u8 (0 : Int), .int .u8 (0 : Int), .int .u8 (0 : Int), .int .u8 (0 : Int), .int .u8 (0 : Int), .int .u8 (0 : Int), .int .u8 (0 : Int), .int .u8 (0 : Int), .int .u8 (0 : Int), .int .u8 (0 : Int), .int .u8 (0 : Int), .int .u8 (0 : Int), .int .u8 (0 : Int), .int .u8 (0 : Int), .int .u8 (0 : Int), .int .u8 (0 : Int), .int .u8 (0 : Int), .int .u8 (0 : Int), .int .u8 (0 : Int), .int .u8 (0 : Int), .int .u8 (0 : Int), .int .u8 (0 : Int), .int .u8 (0 : Int), .int .u8 (0 : Int), .int .u8 (0 : Int), .int .u8 (0 : Int), .int .u8 (0 : Int), .int .u8 (0 : Int), .int .u8 (0 : Int), .int .u8 (0 : Int), .int .u8 (0 : Int), .int .u8 (0 : Int), .int .u8 (0 : Int), .int .u8 (0 : Int), .int .u8 (0 : Int), .int .u8 (0 : Int), .int .u8 (0 : Int), .int .u8 (0 : Int), .int .u8 (0 : Int), .int .u8 (0 : Int), .int .u8 (0 : Int), .int .u8 (0 : Int), .int .u8 (0 : Int), .int .u8 (0 : Int), .int .u8 (0 : Int), .int .u8 (0 : Int), .int .u8 (0 : Int), .int .u8 (0 : Int), .int .u8 (0 : Int), .int .u8 (0 : Int), .int .u8 (0 : Int), .int .u8 (0 : Int), .int .u8 (0 : Int), .int .u8 (0 : Int), .int .u8 (0 : Int), .int .u8 (0 : Int), .int .u8 (0 : Int), .int .u8 (0 : Int), .int .u8 (0 : Int), .int .u8 (0 : Int), .int .u8 (0 : Int), .int .u8 (0 : Int), .int .u8 (0 : Int), .int .u8 (0 : Int), .int .u8 (0 : Int), .int .u8 (0 : Int), .int .u8 (0 : Int), .int .u8 (0 : Int), .int .u8 (0 : Int), .int .u8 (0 : Int), .int .u8 (0 : Int), .int .u8 (0 : Int), .int .u8 (0 : Int), .int .u8 (0 : Int), .int .u8 (0 : Int), .int .u8 (0 : Int), .int .u8 (0 : Int), .int .u8 (0 : Int), .int .u8 (0 : Int), .int .u8 (0 : Int), .int .u8 (0 : Int), .int .u8 (0 : Int), .int .i64 (0 : Int), .int .i64 (0 : Int)] 112) w1 fun b16 w2 =>
  New (.cells #[.pointer sy, .pointer ks, .int .i64 x14, .int .i64 (0 : Int), .bool false, .bool false, .bool false, .int .i64 (0 : Int), .int .i64 (0 : Int), .int .i64 (0 : Int), .int .i64 (0 : Int), .int .i64 (0 : Int), .int .i64 (0 : Int), .int .i64 (0 : Int), .int .i64 (0 : Int), .int .i64 (0 : Int), .string (ByteArray.mk #[]), .int .i64 (0 : Int), .int .i64 (0 : Int), .int .i64 (0 : Int), .string (ByteArray.mk #[]), .int .i64 (0 : Int), .int .i64 (0 : Int), .int .i64 (0 : Int), .string (ByteArray.mk #[]), .int .i64 (0 : Int), .pointer (some ⟨b16, 0, none⟩)] 115) w2 fun b18 w3 =>
  node_Node_catchUp.Call (some ⟨b18, 0, none⟩) w3 fun w4 =>
  R (some ⟨b18, 0, none⟩) w4) = kstep Tryz.prog 22 Tryz.f25.results.toList (Tryz.f25.body.getD .skip) (node_Open.RV R) (kvc Tryz.prog 22 Tryz.f25.results.toList (Tryz.f25.body.getD .skip) (node_Open.RV R) [] 2000) [(0, [])] [(0, .pointer sy), (1, .pointer ks)] w := by kernel_rfl
theorem node_Open.B0_sound {R : Option Addr → World → Prop}  (sy ks : Option Addr) (w : World) (h : node_Open.B0 sy ks w   R) :
    KW Tryz.prog 25 22 (node_Open.RV R) ([(0, [])].map (toItem (Tryz.f25.body.getD .skip))) [(0, .pointer sy), (1, .pointer ks)] w := by
  exact block_spec Tryz.func25 Tryz.mixed stops_nil (Eq.mp (node_Open.B0_eq sy ks w   R ) h)
theorem node_Open.sound (sy ks : Option Addr) (w : World) (R : Option Addr → World → Prop) (h : node_Open.B0 sy ks w R) : node_Open.Call sy ks w R := by
  have hc := calls_of_block (args := #[.pointer sy, .pointer ks]) Tryz.func25 (body := (Tryz.f25.body.getD .skip)) (by kernel_rfl) (by kernel_rfl) (args_slot _) (node_Open.B0_sound sy ks w h)
  exact hc.mono fun e w' he => by
    obtain ⟨v, rfl, hv⟩ := he
    exact node_Open.RV_elim hv
def node_Node_Check.B1 (n v : Option Addr) (c : Int) (t63 : Bool) (w : World) (N1 : Option Addr → Option Addr → Int → World → Prop)  (R : ByteArray → World → Prop) : Prop :=
  Bm t63 (
    R (ByteArray.mk #[97, 32, 99, 108, 101, 97, 114, 101, 100, 32, 114, 111, 119, 32, 105, 115, 32, 110, 111, 116, 32, 122, 101, 114, 111, 115]) w) (
    N1 n v (IntKind.i64.wrap (c + (1 : Int))) w)
theorem node_Node_Check.B1_eq (n v : Option Addr) (c : Int) (t63 : Bool) (w : World) (N1 : Option Addr → Option Addr → Int → World → Prop)  (R : ByteArray → World → Prop)  :
    (
  Bm t63 (
    R (ByteArray.mk #[97, 32, 99, 108, 101, 97, 114, 101, 100, 32, 114, 111, 119, 32, 105, 115, 32, 110, 111, 116, 32, 122, 101, 114, 111, 115]) w) (
    N1 n v (IntKind.i64.wrap (c + (1 : Int))) w)) = kstep Tryz.prog 159 Tryz.f26.results.toList (Tryz.f26.body.getD .skip) (node_Node_Check.RV R) (kvc Tryz.prog 159 Tryz.f26.results.toList (Tryz.f26.body.getD .skip) (node_Node_Check.RV R) [([(0, [1, 1, 1, 1, 1, 0, 1, 0, 0]), (2, [1, 1, 1, 1, 1, 0, 1, 0, 0]), (1, [0]), (0, [1, 1, 1, 1, 1, 1])], fun σ w => dP (slotOf σ 0) fun n_ => dP (slotOf σ 3) fun v_ => dI .i64 (slotOf σ 4) fun c_ => N1 n_ v_ c_ w)] 2000) [(0, [1, 1, 1, 1, 1, 0, 1, 0, 0, 1, 0, 0, 1, 0, 1]), (1, [1]), (0, [1, 1, 1, 1, 1, 0, 1, 0, 0, 1, 1]), (2, [1, 1, 1, 1, 1, 0, 1, 0, 0]), (1, [0]), (0, [1, 1, 1, 1, 1, 1])] [(0, .pointer n), (3, .pointer v), (4, .int .i64 c), (63, .bool t63)] w := by kernel_rfl
theorem node_Node_Check.B1_sound {R : ByteArray → World → Prop} {N1 : Option Addr → Option Addr → Int → World → Prop} (hN1 : ∀ n v c w, N1 n v c w → KW Tryz.prog 26 159 (node_Node_Check.RV R) ([(0, [1, 1, 1, 1, 1, 0, 1, 0, 0]), (2, [1, 1, 1, 1, 1, 0, 1, 0, 0]), (1, [0]), (0, [1, 1, 1, 1, 1, 1])].map (toItem (Tryz.f26.body.getD .skip))) [(0, .pointer n), (3, .pointer v), (4, .int .i64 c)] w) (n v : Option Addr) (c : Int) (t63 : Bool) (w : World) (h : node_Node_Check.B1 n v c t63 w N1  R) :
    KW Tryz.prog 26 159 (node_Node_Check.RV R) ([(0, [1, 1, 1, 1, 1, 0, 1, 0, 0, 1, 0, 0, 1, 0, 1]), (1, [1]), (0, [1, 1, 1, 1, 1, 0, 1, 0, 0, 1, 1]), (2, [1, 1, 1, 1, 1, 0, 1, 0, 0]), (1, [0]), (0, [1, 1, 1, 1, 1, 1])].map (toItem (Tryz.f26.body.getD .skip))) [(0, .pointer n), (3, .pointer v), (4, .int .i64 c), (63, .bool t63)] w := by
  exact block_spec Tryz.func26 Tryz.mixed (stops_cons (fun σ w h => by
      obtain ⟨n_, e0, h⟩ := dP_elim h
      obtain ⟨v_, e1, h⟩ := dP_elim h
      obtain ⟨c_, e2, h⟩ := dI_elim h
      exact (hN1 n_ v_ c_ w h).weaken (Sub.cons (Sub.cons (Sub.cons (Sub.nil _) e2) e1) e0)) stops_nil) (Eq.mp (node_Node_Check.B1_eq n v c t63 w N1  R ) h)
def node_Node_Check.B4 (n v : Option Addr) (c : Int) (t108 : Bool) (w : World) (N1 : Option Addr → Option Addr → Int → World → Prop)  (R : ByteArray → World → Prop) : Prop :=
  Bm t108 (
    R (ByteArray.mk #[97, 32, 112, 101, 110, 100, 105, 110, 103, 32, 99, 97, 108, 108, 39, 115, 32, 115, 101, 113, 117, 101, 110, 99, 101, 32, 110, 117, 109, 98, 101, 114, 32, 105, 115, 32, 111, 117, 116, 32, 111, 102, 32, 98, 111, 117, 110, 100, 115]) w) (
    N1 n v (IntKind.i64.wrap (c + (1 : Int))) w)
theorem node_Node_Check.B4_eq (n v : Option Addr) (c : Int) (t108 : Bool) (w : World) (N1 : Option Addr → Option Addr → Int → World → Prop)  (R : ByteArray → World → Prop)  :
    (
  Bm t108 (
    R (ByteArray.mk #[97, 32, 112, 101, 110, 100, 105, 110, 103, 32, 99, 97, 108, 108, 39, 115, 32, 115, 101, 113, 117, 101, 110, 99, 101, 32, 110, 117, 109, 98, 101, 114, 32, 105, 115, 32, 111, 117, 116, 32, 111, 102, 32, 98, 111, 117, 110, 100, 115]) w) (
    N1 n v (IntKind.i64.wrap (c + (1 : Int))) w)) = kstep Tryz.prog 159 Tryz.f26.results.toList (Tryz.f26.body.getD .skip) (node_Node_Check.RV R) (kvc Tryz.prog 159 Tryz.f26.results.toList (Tryz.f26.body.getD .skip) (node_Node_Check.RV R) [([(0, [1, 1, 1, 1, 1, 0, 1, 0, 0]), (2, [1, 1, 1, 1, 1, 0, 1, 0, 0]), (1, [0]), (0, [1, 1, 1, 1, 1, 1])], fun σ w => dP (slotOf σ 0) fun n_ => dP (slotOf σ 3) fun v_ => dI .i64 (slotOf σ 4) fun c_ => N1 n_ v_ c_ w)] 2000) [(0, [1, 1, 1, 1, 1, 0, 1, 0, 0, 1, 0, 0, 1, 1, 1, 1, 1]), (1, [1]), (0, [1, 1, 1, 1, 1, 0, 1, 0, 0, 1, 1]), (2, [1, 1, 1, 1, 1, 0, 1, 0, 0]), (1, [0]), (0, [1, 1, 1, 1, 1, 1])] [(0, .pointer n), (3, .pointer v), (4, .int .i64 c), (108, .bool t108)] w := by kernel_rfl
theorem node_Node_Check.B4_sound {R : ByteArray → World → Prop} {N1 : Option Addr → Option Addr → Int → World → Prop} (hN1 : ∀ n v c w, N1 n v c w → KW Tryz.prog 26 159 (node_Node_Check.RV R) ([(0, [1, 1, 1, 1, 1, 0, 1, 0, 0]), (2, [1, 1, 1, 1, 1, 0, 1, 0, 0]), (1, [0]), (0, [1, 1, 1, 1, 1, 1])].map (toItem (Tryz.f26.body.getD .skip))) [(0, .pointer n), (3, .pointer v), (4, .int .i64 c)] w) (n v : Option Addr) (c : Int) (t108 : Bool) (w : World) (h : node_Node_Check.B4 n v c t108 w N1  R) :
    KW Tryz.prog 26 159 (node_Node_Check.RV R) ([(0, [1, 1, 1, 1, 1, 0, 1, 0, 0, 1, 0, 0, 1, 1, 1, 1, 1]), (1, [1]), (0, [1, 1, 1, 1, 1, 0, 1, 0, 0, 1, 1]), (2, [1, 1, 1, 1, 1, 0, 1, 0, 0]), (1, [0]), (0, [1, 1, 1, 1, 1, 1])].map (toItem (Tryz.f26.body.getD .skip))) [(0, .pointer n), (3, .pointer v), (4, .int .i64 c), (108, .bool t108)] w := by
  exact block_spec Tryz.func26 Tryz.mixed (stops_cons (fun σ w h => by
      obtain ⟨n_, e0, h⟩ := dP_elim h
      obtain ⟨v_, e1, h⟩ := dP_elim h
      obtain ⟨c_, e2, h⟩ := dI_elim h
      exact (hN1 n_ v_ c_ w h).weaken (Sub.cons (Sub.cons (Sub.cons (Sub.nil _) e2) e1) e0)) stops_nil) (Eq.mp (node_Node_Check.B4_eq n v c t108 w N1  R ) h)
def node_Node_Check.B2 (n v : Option Addr) (c : Int) (t92 : Bool) (w : World) (N1 : Option Addr → Option Addr → Int → World → Prop)  (R : ByteArray → World → Prop) : Prop :=
  Bm t92 (
    R (ByteArray.mk #[97, 32, 112, 101, 110, 100, 105, 110, 103, 32, 99, 97, 108, 108, 39, 115, 32, 105, 110, 100, 101, 120, 32, 105, 115, 32, 110, 111, 116, 32, 97, 98, 111, 118, 101, 32, 97, 112, 112, 108, 105, 101, 100, 32, 97, 110, 100, 32, 119, 105, 116, 104, 105, 110, 32, 116, 104, 101, 32, 108, 111, 103]) w) (
    Pn n fun a =>
    (0 ≤ c ∧ c < ((3 : Nat) : Int)) ∧
    LdI .i64 (Addr.add (a.add 7) (c.toNat * 1)) w fun x98 =>
    Bm (decide (x98 < (1 : Int))) (
      node_Node_Check.B4 n v c true w N1 R) (
      Pn n fun a_1 =>
      (0 ≤ c ∧ c < ((3 : Nat) : Int)) ∧
      LdI .i64 (Addr.add (a_1.add 7) (c.toNat * 1)) w fun x106 =>
      node_Node_Check.B4 n v c (decide (x106 > (72057594037927936 : Int))) w N1 R))
theorem node_Node_Check.B2_eq (n v : Option Addr) (c : Int) (t92 : Bool) (w : World) (N1 : Option Addr → Option Addr → Int → World → Prop)  (R : ByteArray → World → Prop) (sB4 : Option Addr → Option Addr → Int → Bool → World → Prop) :
    (
  Bm t92 (
    R (ByteArray.mk #[97, 32, 112, 101, 110, 100, 105, 110, 103, 32, 99, 97, 108, 108, 39, 115, 32, 105, 110, 100, 101, 120, 32, 105, 115, 32, 110, 111, 116, 32, 97, 98, 111, 118, 101, 32, 97, 112, 112, 108, 105, 101, 100, 32, 97, 110, 100, 32, 119, 105, 116, 104, 105, 110, 32, 116, 104, 101, 32, 108, 111, 103]) w) (
    Pn n fun a =>
    (0 ≤ c ∧ c < ((3 : Nat) : Int)) ∧
    LdI .i64 (Addr.add (a.add 7) (c.toNat * 1)) w fun x98 =>
    Bm (decide (x98 < (1 : Int))) (
      sB4 n v c true w) (
      Pn n fun a_1 =>
      (0 ≤ c ∧ c < ((3 : Nat) : Int)) ∧
      LdI .i64 (Addr.add (a_1.add 7) (c.toNat * 1)) w fun x106 =>
      sB4 n v c (decide (x106 > (72057594037927936 : Int))) w))) = kstep Tryz.prog 159 Tryz.f26.results.toList (Tryz.f26.body.getD .skip) (node_Node_Check.RV R) (kvc Tryz.prog 159 Tryz.f26.results.toList (Tryz.f26.body.getD .skip) (node_Node_Check.RV R) [([(0, [1, 1, 1, 1, 1, 0, 1, 0, 0, 1, 0, 0, 1, 1, 1, 1, 1]), (1, [1]), (0, [1, 1, 1, 1, 1, 0, 1, 0, 0, 1, 1]), (2, [1, 1, 1, 1, 1, 0, 1, 0, 0]), (1, [0]), (0, [1, 1, 1, 1, 1, 1])], fun σ w => dP (slotOf σ 0) fun n_ => dP (slotOf σ 3) fun v_ => dI .i64 (slotOf σ 4) fun c_ => dB (slotOf σ 108) fun t108_ => sB4 n_ v_ c_ t108_ w)] 2000) [(0, [1, 1, 1, 1, 1, 0, 1, 0, 0, 1, 0, 0, 1, 1, 1, 0, 1]), (0, [1, 1, 1, 1, 1, 0, 1, 0, 0, 1, 0, 0, 1, 1, 1, 1]), (1, [1]), (0, [1, 1, 1, 1, 1, 0, 1, 0, 0, 1, 1]), (2, [1, 1, 1, 1, 1, 0, 1, 0, 0]), (1, [0]), (0, [1, 1, 1, 1, 1, 1])] [(0, .pointer n), (3, .pointer v), (4, .int .i64 c), (92, .bool t92)] w := by kernel_rfl
theorem node_Node_Check.B2_sound {R : ByteArray → World → Prop} {N1 : Option Addr → Option Addr → Int → World → Prop} (hN1 : ∀ n v c w, N1 n v c w → KW Tryz.prog 26 159 (node_Node_Check.RV R) ([(0, [1, 1, 1, 1, 1, 0, 1, 0, 0]), (2, [1, 1, 1, 1, 1, 0, 1, 0, 0]), (1, [0]), (0, [1, 1, 1, 1, 1, 1])].map (toItem (Tryz.f26.body.getD .skip))) [(0, .pointer n), (3, .pointer v), (4, .int .i64 c)] w) (n v : Option Addr) (c : Int) (t92 : Bool) (w : World) (h : node_Node_Check.B2 n v c t92 w N1  R) :
    KW Tryz.prog 26 159 (node_Node_Check.RV R) ([(0, [1, 1, 1, 1, 1, 0, 1, 0, 0, 1, 0, 0, 1, 1, 1, 0, 1]), (0, [1, 1, 1, 1, 1, 0, 1, 0, 0, 1, 0, 0, 1, 1, 1, 1]), (1, [1]), (0, [1, 1, 1, 1, 1, 0, 1, 0, 0, 1, 1]), (2, [1, 1, 1, 1, 1, 0, 1, 0, 0]), (1, [0]), (0, [1, 1, 1, 1, 1, 1])].map (toItem (Tryz.f26.body.getD .skip))) [(0, .pointer n), (3, .pointer v), (4, .int .i64 c), (92, .bool t92)] w := by
  exact block_spec Tryz.func26 Tryz.mixed (stops_cons (fun σ w h => by
      obtain ⟨n_, e0, h⟩ := dP_elim h
      obtain ⟨v_, e1, h⟩ := dP_elim h
      obtain ⟨c_, e2, h⟩ := dI_elim h
      obtain ⟨t108_, e3, h⟩ := dB_elim h
      exact (node_Node_Check.B4_sound hN1 n_ v_ c_ t108_ w h).weaken (Sub.cons (Sub.cons (Sub.cons (Sub.cons (Sub.nil _) e3) e2) e1) e0)) stops_nil) (Eq.mp (node_Node_Check.B2_eq n v c t92 w N1  R (fun n_ v_ c_ t108_ w => node_Node_Check.B4 n_ v_ c_ t108_ w N1 R)) h)
def node_Node_Check.B5 (t158 : Bool) (w : World)   (R : ByteArray → World → Prop) : Prop :=
  Bm t158 (
    R (ByteArray.mk #[116, 104, 101, 32, 101, 110, 99, 111, 100, 101, 114, 39, 115, 32, 99, 117, 114, 115, 111, 114, 32, 111, 114, 32, 115, 117, 109, 32, 105, 115, 32, 111, 117, 116, 32, 111, 102, 32, 98, 111, 117, 110, 100, 115]) w) (
    R (ByteArray.mk #[]) w)
theorem node_Node_Check.B5_eq (t158 : Bool) (w : World)   (R : ByteArray → World → Prop)  :
    (
  Bm t158 (
    R (ByteArray.mk #[116, 104, 101, 32, 101, 110, 99, 111, 100, 101, 114, 39, 115, 32, 99, 117, 114, 115, 111, 114, 32, 111, 114, 32, 115, 117, 109, 32, 105, 115, 32, 111, 117, 116, 32, 111, 102, 32, 98, 111, 117, 110, 100, 115]) w) (
    R (ByteArray.mk #[]) w)) = kstep Tryz.prog 159 Tryz.f26.results.toList (Tryz.f26.body.getD .skip) (node_Node_Check.RV R) (kvc Tryz.prog 159 Tryz.f26.results.toList (Tryz.f26.body.getD .skip) (node_Node_Check.RV R) [] 2000) [(0, [1, 1, 1, 1, 1, 1, 1, 0, 1]), (0, [1, 1, 1, 1, 1, 1, 1, 1])] [(158, .bool t158)] w := by kernel_rfl
theorem node_Node_Check.B5_sound {R : ByteArray → World → Prop}  (t158 : Bool) (w : World) (h : node_Node_Check.B5 t158 w   R) :
    KW Tryz.prog 26 159 (node_Node_Check.RV R) ([(0, [1, 1, 1, 1, 1, 1, 1, 0, 1]), (0, [1, 1, 1, 1, 1, 1, 1, 1])].map (toItem (Tryz.f26.body.getD .skip))) [(158, .bool t158)] w := by
  exact block_spec Tryz.func26 Tryz.mixed stops_nil (Eq.mp (node_Node_Check.B5_eq t158 w   R ) h)
def node_Node_Check.B3 (n : Option Addr) (t120 : Bool) (w : World)   (R : ByteArray → World → Prop) : Prop :=
  Bm t120 (
    R (ByteArray.mk #[116, 104, 101, 32, 99, 111, 117, 110, 116, 32, 111, 102, 32, 97, 110, 115, 119, 101, 114, 115, 32, 105, 115, 32, 111, 117, 116, 32, 111, 102, 32, 98, 111, 117, 110, 100, 115]) w) (
    Pn n fun a =>
    LdP (a.add 26) w fun x124 =>
    Pn x124 fun a_1 =>
    LdI .i64 (a_1.add 234) w fun x127 =>
    Bm (decide (x127 < (0 : Int))) (
      node_Node_Check.B5 true w  R) (
      Pn n fun a_2 =>
      LdP (a_2.add 26) w fun x133 =>
      Pn x133 fun a_3 =>
      LdI .i64 (a_3.add 234) w fun x136 =>
      Bm (decide (x136 > (234 : Int))) (
        node_Node_Check.B5 true w  R) (
        Pn n fun a_4 =>
        LdP (a_4.add 26) w fun x143 =>
        Pn x143 fun a_5 =>
        LdI .i64 (a_5.add 235) w fun x146 =>
        Bm (decide (x146 < (0 : Int))) (
          node_Node_Check.B5 true w  R) (
          Pn n fun a_6 =>
          LdP (a_6.add 26) w fun x153 =>
          Pn x153 fun a_7 =>
          LdI .i64 (a_7.add 235) w fun x156 =>
          node_Node_Check.B5 (decide (x156 > (65535 : Int))) w  R))))
theorem node_Node_Check.B3_eq (n : Option Addr) (t120 : Bool) (w : World)   (R : ByteArray → World → Prop) (sB5 : Bool → World → Prop) :
    (
  Bm t120 (
    R (ByteArray.mk #[116, 104, 101, 32, 99, 111, 117, 110, 116, 32, 111, 102, 32, 97, 110, 115, 119, 101, 114, 115, 32, 105, 115, 32, 111, 117, 116, 32, 111, 102, 32, 98, 111, 117, 110, 100, 115]) w) (
    Pn n fun a =>
    LdP (a.add 26) w fun x124 =>
    Pn x124 fun a_1 =>
    LdI .i64 (a_1.add 234) w fun x127 =>
    Bm (decide (x127 < (0 : Int))) (
      sB5 true w) (
      Pn n fun a_2 =>
      LdP (a_2.add 26) w fun x133 =>
      Pn x133 fun a_3 =>
      LdI .i64 (a_3.add 234) w fun x136 =>
      Bm (decide (x136 > (234 : Int))) (
        sB5 true w) (
        Pn n fun a_4 =>
        LdP (a_4.add 26) w fun x143 =>
        Pn x143 fun a_5 =>
        LdI .i64 (a_5.add 235) w fun x146 =>
        Bm (decide (x146 < (0 : Int))) (
          sB5 true w) (
          Pn n fun a_6 =>
          LdP (a_6.add 26) w fun x153 =>
          Pn x153 fun a_7 =>
          LdI .i64 (a_7.add 235) w fun x156 =>
          sB5 (decide (x156 > (65535 : Int))) w))))) = kstep Tryz.prog 159 Tryz.f26.results.toList (Tryz.f26.body.getD .skip) (node_Node_Check.RV R) (kvc Tryz.prog 159 Tryz.f26.results.toList (Tryz.f26.body.getD .skip) (node_Node_Check.RV R) [([(0, [1, 1, 1, 1, 1, 1, 1, 0, 1]), (0, [1, 1, 1, 1, 1, 1, 1, 1])], fun σ w => dB (slotOf σ 158) fun t158_ => sB5 t158_ w)] 2000) [(0, [1, 1, 1, 1, 1, 1, 0, 1]), (0, [1, 1, 1, 1, 1, 1, 1])] [(0, .pointer n), (120, .bool t120)] w := by kernel_rfl
theorem node_Node_Check.B3_sound {R : ByteArray → World → Prop}  (n : Option Addr) (t120 : Bool) (w : World) (h : node_Node_Check.B3 n t120 w   R) :
    KW Tryz.prog 26 159 (node_Node_Check.RV R) ([(0, [1, 1, 1, 1, 1, 1, 0, 1]), (0, [1, 1, 1, 1, 1, 1, 1])].map (toItem (Tryz.f26.body.getD .skip))) [(0, .pointer n), (120, .bool t120)] w := by
  exact block_spec Tryz.func26 Tryz.mixed (stops_cons (fun σ w h => by
      obtain ⟨t158_, e0, h⟩ := dB_elim h
      exact (node_Node_Check.B5_sound  t158_ w h).weaken (Sub.cons (Sub.nil _) e0)) stops_nil) (Eq.mp (node_Node_Check.B3_eq n t120 w   R (fun t158_ w => node_Node_Check.B5 t158_ w  R)) h)
def node_Node_Check.L1b (n v : Option Addr) (c : Int) (w : World)  (N1 : Option Addr → Option Addr → Int → World → Prop) (R : ByteArray → World → Prop) : Prop :=
  Bm (decide (c < (3 : Int))) (
    Pn n fun a =>
    (0 ≤ c ∧ c < ((3 : Nat) : Int)) ∧
    LdB (Addr.add (a.add 4) (c.toNat * 1)) w fun x46 =>
    Bm (!x46) (
      Pn n fun a_1 =>
      (0 ≤ c ∧ c < ((3 : Nat) : Int)) ∧
      LdI .i64 (Addr.add (a_1.add 7) (c.toNat * 1)) w fun x53 =>
      Bm (x53 != (0 : Int)) (
        node_Node_Check.B1 n v c true w N1 R) (
        Pn n fun a_2 =>
        (0 ≤ c ∧ c < ((3 : Nat) : Int)) ∧
        LdI .i64 (Addr.add (a_2.add 10) (c.toNat * 1)) w fun x61 =>
        node_Node_Check.B1 n v c (x61 != (0 : Int)) w N1 R)) (
      Pn v fun a_3 =>
      LdI .i64 (a_3.add 3) w fun x67 =>
      Bm (x67 != (2 : Int)) (
        R (ByteArray.mk #[97, 32, 99, 97, 108, 108, 32, 112, 101, 110, 100, 105, 110, 103, 32, 97, 116, 32, 97, 32, 110, 111, 100, 101, 32, 116, 104, 97, 116, 32, 100, 111, 101, 115, 32, 110, 111, 116, 32, 108, 101, 97, 100]) w) (
        Pn n fun a_4 =>
        (0 ≤ c ∧ c < ((3 : Nat) : Int)) ∧
        LdI .i64 (Addr.add (a_4.add 10) (c.toNat * 1)) w.drew fun x74 =>
        Pn n fun a_5 =>
        LdI .i64 (a_5.add 3) w.drew fun x78 =>
        Bm (decide (x74 ≤ x78)) (
          node_Node_Check.B2 n v c true w.drew N1 R) (
          Pn n fun a_6 =>
          (0 ≤ c ∧ c < ((3 : Nat) : Int)) ∧
          LdI .i64 (Addr.add (a_6.add 10) (c.toNat * 1)) w.drew fun x86 =>
          Pn v fun a_7 =>
          LdI .i64 (a_7.add 12) w.drew fun x90 =>
          node_Node_Check.B2 n v c (decide (x86 > x90)) w.drew N1 R)))) (
    Pn n fun a_8 =>
    LdI .i64 (a_8.add 25) w fun x112 =>
    Bm (decide (x112 < (0 : Int))) (
      node_Node_Check.B3 n true w  R) (
      Pn n fun a_9 =>
      LdI .i64 (a_9.add 25) w fun x118 =>
      node_Node_Check.B3 n (decide (x118 > (3 : Int))) w  R))
theorem node_Node_Check.L1b_eq (n v : Option Addr) (c : Int) (w : World)  (N1 : Option Addr → Option Addr → Int → World → Prop) (R : ByteArray → World → Prop) (sB1 : Option Addr → Option Addr → Int → Bool → World → Prop) (sB2 : Option Addr → Option Addr → Int → Bool → World → Prop) (sB3 : Option Addr → Bool → World → Prop) :
    (
  Bm (decide (c < (3 : Int))) (
    Pn n fun a =>
    (0 ≤ c ∧ c < ((3 : Nat) : Int)) ∧
    LdB (Addr.add (a.add 4) (c.toNat * 1)) w fun x46 =>
    Bm (!x46) (
      Pn n fun a_1 =>
      (0 ≤ c ∧ c < ((3 : Nat) : Int)) ∧
      LdI .i64 (Addr.add (a_1.add 7) (c.toNat * 1)) w fun x53 =>
      Bm (x53 != (0 : Int)) (
        sB1 n v c true w) (
        Pn n fun a_2 =>
        (0 ≤ c ∧ c < ((3 : Nat) : Int)) ∧
        LdI .i64 (Addr.add (a_2.add 10) (c.toNat * 1)) w fun x61 =>
        sB1 n v c (x61 != (0 : Int)) w)) (
      Pn v fun a_3 =>
      LdI .i64 (a_3.add 3) w fun x67 =>
      Bm (x67 != (2 : Int)) (
        R (ByteArray.mk #[97, 32, 99, 97, 108, 108, 32, 112, 101, 110, 100, 105, 110, 103, 32, 97, 116, 32, 97, 32, 110, 111, 100, 101, 32, 116, 104, 97, 116, 32, 100, 111, 101, 115, 32, 110, 111, 116, 32, 108, 101, 97, 100]) w) (
        Pn n fun a_4 =>
        (0 ≤ c ∧ c < ((3 : Nat) : Int)) ∧
        LdI .i64 (Addr.add (a_4.add 10) (c.toNat * 1)) w.drew fun x74 =>
        Pn n fun a_5 =>
        LdI .i64 (a_5.add 3) w.drew fun x78 =>
        Bm (decide (x74 ≤ x78)) (
          sB2 n v c true w.drew) (
          Pn n fun a_6 =>
          (0 ≤ c ∧ c < ((3 : Nat) : Int)) ∧
          LdI .i64 (Addr.add (a_6.add 10) (c.toNat * 1)) w.drew fun x86 =>
          Pn v fun a_7 =>
          LdI .i64 (a_7.add 12) w.drew fun x90 =>
          sB2 n v c (decide (x86 > x90)) w.drew)))) (
    Pn n fun a_8 =>
    LdI .i64 (a_8.add 25) w fun x112 =>
    Bm (decide (x112 < (0 : Int))) (
      sB3 n true w) (
      Pn n fun a_9 =>
      LdI .i64 (a_9.add 25) w fun x118 =>
      sB3 n (decide (x118 > (3 : Int))) w))) = kstep Tryz.prog 159 Tryz.f26.results.toList (Tryz.f26.body.getD .skip) (node_Node_Check.RV R) (kvc Tryz.prog 159 Tryz.f26.results.toList (Tryz.f26.body.getD .skip) (node_Node_Check.RV R) [([(0, [1, 1, 1, 1, 1, 0, 1, 0, 0, 1, 0, 0, 1, 0, 1]), (1, [1]), (0, [1, 1, 1, 1, 1, 0, 1, 0, 0, 1, 1]), (2, [1, 1, 1, 1, 1, 0, 1, 0, 0]), (1, [0]), (0, [1, 1, 1, 1, 1, 1])], fun σ w => dP (slotOf σ 0) fun n_ => dP (slotOf σ 3) fun v_ => dI .i64 (slotOf σ 4) fun c_ => dB (slotOf σ 63) fun t63_ => sB1 n_ v_ c_ t63_ w),
    ([(0, [1, 1, 1, 1, 1, 0, 1, 0, 0, 1, 0, 0, 1, 1, 1, 0, 1]), (0, [1, 1, 1, 1, 1, 0, 1, 0, 0, 1, 0, 0, 1, 1, 1, 1]), (1, [1]), (0, [1, 1, 1, 1, 1, 0, 1, 0, 0, 1, 1]), (2, [1, 1, 1, 1, 1, 0, 1, 0, 0]), (1, [0]), (0, [1, 1, 1, 1, 1, 1])], fun σ w => dP (slotOf σ 0) fun n_ => dP (slotOf σ 3) fun v_ => dI .i64 (slotOf σ 4) fun c_ => dB (slotOf σ 92) fun t92_ => sB2 n_ v_ c_ t92_ w),
    ([(0, [1, 1, 1, 1, 1, 1, 0, 1]), (0, [1, 1, 1, 1, 1, 1, 1])], fun σ w => dP (slotOf σ 0) fun n_ => dB (slotOf σ 120) fun t120_ => sB3 n_ t120_ w)] 2000) [(0, [1, 1, 1, 1, 1, 0, 1, 0, 0]), (2, [1, 1, 1, 1, 1, 0, 1, 0, 0]), (1, [0]), (0, [1, 1, 1, 1, 1, 1])] [(0, .pointer n), (3, .pointer v), (4, .int .i64 c)] w := by kernel_rfl
theorem node_Node_Check.L1b_sound {R : ByteArray → World → Prop} {N1 : Option Addr → Option Addr → Int → World → Prop} (hN1 : ∀ n v c w, N1 n v c w → KW Tryz.prog 26 159 (node_Node_Check.RV R) ([(0, [1, 1, 1, 1, 1, 0, 1, 0, 0]), (2, [1, 1, 1, 1, 1, 0, 1, 0, 0]), (1, [0]), (0, [1, 1, 1, 1, 1, 1])].map (toItem (Tryz.f26.body.getD .skip))) [(0, .pointer n), (3, .pointer v), (4, .int .i64 c)] w) (n v : Option Addr) (c : Int) (w : World) (h : node_Node_Check.L1b n v c w  N1 R) :
    KW Tryz.prog 26 159 (node_Node_Check.RV R) ([(0, [1, 1, 1, 1, 1, 0, 1, 0, 0]), (2, [1, 1, 1, 1, 1, 0, 1, 0, 0]), (1, [0]), (0, [1, 1, 1, 1, 1, 1])].map (toItem (Tryz.f26.body.getD .skip))) [(0, .pointer n), (3, .pointer v), (4, .int .i64 c)] w := by
  exact block_spec Tryz.func26 Tryz.mixed (stops_cons (fun σ w h => by
      obtain ⟨n_, e0, h⟩ := dP_elim h
      obtain ⟨v_, e1, h⟩ := dP_elim h
      obtain ⟨c_, e2, h⟩ := dI_elim h
      obtain ⟨t63_, e3, h⟩ := dB_elim h
      exact (node_Node_Check.B1_sound hN1 n_ v_ c_ t63_ w h).weaken (Sub.cons (Sub.cons (Sub.cons (Sub.cons (Sub.nil _) e3) e2) e1) e0)) (stops_cons (fun σ w h => by
      obtain ⟨n_, e0, h⟩ := dP_elim h
      obtain ⟨v_, e1, h⟩ := dP_elim h
      obtain ⟨c_, e2, h⟩ := dI_elim h
      obtain ⟨t92_, e3, h⟩ := dB_elim h
      exact (node_Node_Check.B2_sound hN1 n_ v_ c_ t92_ w h).weaken (Sub.cons (Sub.cons (Sub.cons (Sub.cons (Sub.nil _) e3) e2) e1) e0)) (stops_cons (fun σ w h => by
      obtain ⟨n_, e0, h⟩ := dP_elim h
      obtain ⟨t120_, e1, h⟩ := dB_elim h
      exact (node_Node_Check.B3_sound  n_ t120_ w h).weaken (Sub.cons (Sub.cons (Sub.nil _) e1) e0)) stops_nil))) (Eq.mp (node_Node_Check.L1b_eq n v c w  N1 R (fun n_ v_ c_ t63_ w => node_Node_Check.B1 n_ v_ c_ t63_ w N1 R) (fun n_ v_ c_ t92_ w => node_Node_Check.B2 n_ v_ c_ t92_ w N1 R) (fun n_ t120_ w => node_Node_Check.B3 n_ t120_ w  R)) h)
def node_Node_Check.L1 (n v : Option Addr) (c : Int) (w : World)  (R : ByteArray → World → Prop) : Prop :=
  ∃ (I : Nat → Option Addr → Option Addr → Int → World → Prop) (m : Nat), I m n v c w ∧ ∀ m n v c w, I m n v c w → node_Node_Check.L1b n v c w  (fun n' v' c' w' => ∃ m', m' < m ∧ I m' n' v' c' w') R
theorem node_Node_Check.L1_sound {R : ByteArray → World → Prop}  (n v : Option Addr) (c : Int) (w : World) (h : node_Node_Check.L1 n v c w  R) :
    KW Tryz.prog 26 159 (node_Node_Check.RV R) ([(0, [1, 1, 1, 1, 1, 0, 1, 0, 0]), (2, [1, 1, 1, 1, 1, 0, 1, 0, 0]), (1, [0]), (0, [1, 1, 1, 1, 1, 1])].map (toItem (Tryz.f26.body.getD .skip))) [(0, .pointer n), (3, .pointer v), (4, .int .i64 c)] w := by
  obtain ⟨I, m, hBase, hr⟩ := h
  refine KW.loop (fun m σ w => ∃ (n v : Option Addr) (c : Int), σ = [(0, .pointer n), (3, .pointer v), (4, .int .i64 c)] ∧ I m n v c w) ?_ m _ w ⟨n, v, c, rfl, hBase⟩
  rintro m ih σ w ⟨n, v, c, rfl, hI⟩
  exact node_Node_Check.L1b_sound  (N1 := fun n' v' c' w' => ∃ m', m' < m ∧ I m' n' v' c' w') (fun n' v' c' w' hx => by obtain ⟨m', hlt, hI'⟩ := hx; exact ih m' hlt _ w' ⟨n', v', c', rfl, hI'⟩) n v c w (hr m n v c w hI)
def node_Node_Check.B0 (n : Option Addr) (w : World)   (R : ByteArray → World → Prop) : Prop :=
  Pn n fun a =>
  LdP a w fun x8 =>
  sync_Sync_View.Call x8 w fun r9 w1 =>
  Pn n fun a_1 =>
  LdI .i64 (a_1.add 2) w1.drew fun x13 =>
  Pn r9 fun a_2 =>
  LdI .i64 a_2 w1.drew fun x17 =>
  Bm (x13 != x17) (
    R (ByteArray.mk #[105, 100, 32, 105, 115, 32, 110, 111, 116, 32, 116, 104, 101, 32, 99, 111, 114, 101, 39, 115]) w1.drew) (
    Pn n fun a_3 =>
    LdI .i64 (a_3.add 3) w1.drew.drew fun x22 =>
    Pn r9 fun a_4 =>
    LdI .i64 (a_4.add 10) w1.drew.drew fun x26 =>
    Bm (decide (x22 < x26)) (
      R (ByteArray.mk #[97, 112, 112, 108, 105, 101, 100, 32, 98, 101, 108, 111, 119, 32, 116, 104, 101, 32, 98, 97, 115, 101]) w1.drew.drew) (
      Pn n fun a_5 =>
      LdI .i64 (a_5.add 3) w1.drew.drew.drew fun x31 =>
      Pn r9 fun a_6 =>
      LdI .i64 (a_6.add 9) w1.drew.drew.drew fun x35 =>
      Bm (decide (x31 > x35)) (
        R (ByteArray.mk #[97, 112, 112, 108, 105, 101, 100, 32, 97, 98, 111, 118, 101, 32, 116, 104, 101, 32, 99, 111, 109, 109, 105, 116]) w1.drew.drew.drew) (
        node_Node_Check.L1 n r9 (0 : Int) w1.drew.drew.drew  R)))
theorem node_Node_Check.B0_eq (n : Option Addr) (w : World)   (R : ByteArray → World → Prop) (sL1 : Option Addr → Option Addr → Int → World → Prop) :
    (
  Pn n fun a =>
  LdP a w fun x8 =>
  sync_Sync_View.Call x8 w fun r9 w1 =>
  Pn n fun a_1 =>
  LdI .i64 (a_1.add 2) w1.drew fun x13 =>
  Pn r9 fun a_2 =>
  LdI .i64 a_2 w1.drew fun x17 =>
  Bm (x13 != x17) (
    R (ByteArray.mk #[105, 100, 32, 105, 115, 32, 110, 111, 116, 32, 116, 104, 101, 32, 99, 111, 114, 101, 39, 115]) w1.drew) (
    Pn n fun a_3 =>
    LdI .i64 (a_3.add 3) w1.drew.drew fun x22 =>
    Pn r9 fun a_4 =>
    LdI .i64 (a_4.add 10) w1.drew.drew fun x26 =>
    Bm (decide (x22 < x26)) (
      R (ByteArray.mk #[97, 112, 112, 108, 105, 101, 100, 32, 98, 101, 108, 111, 119, 32, 116, 104, 101, 32, 98, 97, 115, 101]) w1.drew.drew) (
      Pn n fun a_5 =>
      LdI .i64 (a_5.add 3) w1.drew.drew.drew fun x31 =>
      Pn r9 fun a_6 =>
      LdI .i64 (a_6.add 9) w1.drew.drew.drew fun x35 =>
      Bm (decide (x31 > x35)) (
        R (ByteArray.mk #[97, 112, 112, 108, 105, 101, 100, 32, 97, 98, 111, 118, 101, 32, 116, 104, 101, 32, 99, 111, 109, 109, 105, 116]) w1.drew.drew.drew) (
        sL1 n r9 (0 : Int) w1.drew.drew.drew)))) = kstep Tryz.prog 159 Tryz.f26.results.toList (Tryz.f26.body.getD .skip) (node_Node_Check.RV R) (kvc Tryz.prog 159 Tryz.f26.results.toList (Tryz.f26.body.getD .skip) (node_Node_Check.RV R) [([(0, [1, 1, 1, 1, 1, 0, 1, 0, 0]), (2, [1, 1, 1, 1, 1, 0, 1, 0, 0]), (1, [0]), (0, [1, 1, 1, 1, 1, 1])], fun σ w => dP (slotOf σ 0) fun n_ => dP (slotOf σ 3) fun v_ => dI .i64 (slotOf σ 4) fun c_ => sL1 n_ v_ c_ w)] 2000) [(0, [])] [(0, .pointer n)] w := by kernel_rfl
theorem node_Node_Check.B0_sound {R : ByteArray → World → Prop}  (n : Option Addr) (w : World) (h : node_Node_Check.B0 n w   R) :
    KW Tryz.prog 26 159 (node_Node_Check.RV R) ([(0, [])].map (toItem (Tryz.f26.body.getD .skip))) [(0, .pointer n)] w := by
  exact block_spec Tryz.func26 Tryz.mixed (stops_cons (fun σ w h => by
      obtain ⟨n_, e0, h⟩ := dP_elim h
      obtain ⟨v_, e1, h⟩ := dP_elim h
      obtain ⟨c_, e2, h⟩ := dI_elim h
      exact (node_Node_Check.L1_sound  n_ v_ c_ w h).weaken (Sub.cons (Sub.cons (Sub.cons (Sub.nil _) e2) e1) e0)) stops_nil) (Eq.mp (node_Node_Check.B0_eq n w   R (fun n_ v_ c_ w => node_Node_Check.L1 n_ v_ c_ w  R)) h)
theorem node_Node_Check.sound (n : Option Addr) (w : World) (R : ByteArray → World → Prop) (h : node_Node_Check.B0 n w R) : node_Node_Check.Call n w R := by
  have hc := calls_of_block (args := #[.pointer n]) Tryz.func26 (body := (Tryz.f26.body.getD .skip)) (by kernel_rfl) (by kernel_rfl) (args_slot _) (node_Node_Check.B0_sound n w h)
  exact hc.mono fun e w' he => by
    obtain ⟨v, rfl, hv⟩ := he
    exact node_Node_Check.RV_elim hv
end Go.Proofs.Qxb6500430aGreat
