import Derived.Test.Qxb6500426aSig
set_option maxRecDepth 100000
set_option linter.unusedVariables false
open Go.Vc
namespace Go.Proofs.Qxb6500426a
def seglaw_SameSeg.B1 (a b : Nat) (t44 : Bool) (w : World)   (R : Bool → World → Prop) : Prop :=
  Bm t44 (
    R false w) (
    LdL ⟨a, 6, none⟩ w fun x46_b x46_l x46_c =>
    LdL ⟨b, 6, none⟩ w fun x48_b x48_l x48_c =>
    api_SameBytes.Call x46_b x46_l x46_c x48_b x48_l x48_c w fun r49 w1 =>
    R r49 w1)
theorem seglaw_SameSeg.B1_eq (a b : Nat) (t44 : Bool) (w : World)   (R : Bool → World → Prop)  :
    (
  Bm t44 (
    R false w) (
    LdL ⟨a, 6, none⟩ w fun x46_b x46_l x46_c =>
    LdL ⟨b, 6, none⟩ w fun x48_b x48_l x48_c =>
    api_SameBytes.Call x46_b x46_l x46_c x48_b x48_l x48_c w fun r49 w1 =>
    R r49 w1)) = kstep Try.prog 50 Try.f55.results.toList (Try.f55.body.getD .skip) (seglaw_SameSeg.RV R) (kvc Try.prog 50 Try.f55.results.toList (Try.f55.body.getD .skip) (seglaw_SameSeg.RV R) [] 2000) [(0, [1, 0, 1]), (0, [1, 1])] [(2, .pointer (some ⟨a, 0, none⟩)), (3, .pointer (some ⟨b, 0, none⟩)), (44, .bool t44)] w := by kernel_rfl
theorem seglaw_SameSeg.B1_sound {R : Bool → World → Prop}  (a b : Nat) (t44 : Bool) (w : World) (h : seglaw_SameSeg.B1 a b t44 w   R) :
    KW Try.prog 55 50 (seglaw_SameSeg.RV R) ([(0, [1, 0, 1]), (0, [1, 1])].map (toItem (Try.f55.body.getD .skip))) [(2, .pointer (some ⟨a, 0, none⟩)), (3, .pointer (some ⟨b, 0, none⟩)), (44, .bool t44)] w := by
  exact block_spec Try.func55 Try.mixed stops_nil (Eq.mp (seglaw_SameSeg.B1_eq a b t44 w   R ) h)
def seglaw_SameSeg.B0 (a_0 a_1 a_2 a_3 a_4 a_5 : Int) (a_6_b : Option Addr) (a_6_l a_6_c : Nat) (b_0 b_1 b_2 b_3 b_4 b_5 : Int) (b_6_b : Option Addr) (b_6_l b_6_c : Nat) (w : World)   (R : Bool → World → Prop) : Prop :=
  New (.cells #[.int .i64 a_0, .int .i64 a_1, .int .i64 a_2, .int .i64 a_3, .int .i64 a_4, .int .i64 a_5, .slice a_6_b a_6_l a_6_c] 39) w fun a_ w1 =>
  New (.cells #[.int .i64 b_0, .int .i64 b_1, .int .i64 b_2, .int .i64 b_3, .int .i64 b_4, .int .i64 b_5, .slice b_6_b b_6_l b_6_c] 39) w1 fun b_ w2 =>
  LdI .i64 ⟨a_, 0, none⟩ w2 fun x6 =>
  LdI .i64 ⟨b_, 0, none⟩ w2 fun x8 =>
  Bm (x6 != x8) (
    seglaw_SameSeg.B1 a_ b_ true w2  R) (
    LdI .i64 ⟨a_, 1, none⟩ w2 fun x12 =>
    LdI .i64 ⟨b_, 1, none⟩ w2 fun x14 =>
    Bm (x12 != x14) (
      seglaw_SameSeg.B1 a_ b_ true w2  R) (
      LdI .i64 ⟨a_, 2, none⟩ w2 fun x19 =>
      LdI .i64 ⟨b_, 2, none⟩ w2 fun x21 =>
      Bm (x19 != x21) (
        seglaw_SameSeg.B1 a_ b_ true w2  R) (
        LdI .i64 ⟨a_, 3, none⟩ w2 fun x26 =>
        LdI .i64 ⟨b_, 3, none⟩ w2 fun x28 =>
        Bm (x26 != x28) (
          seglaw_SameSeg.B1 a_ b_ true w2  R) (
          LdI .i64 ⟨a_, 4, none⟩ w2 fun x33 =>
          LdI .i64 ⟨b_, 4, none⟩ w2 fun x35 =>
          Bm (x33 != x35) (
            seglaw_SameSeg.B1 a_ b_ true w2  R) (
            LdI .i64 ⟨a_, 5, none⟩ w2 fun x40 =>
            LdI .i64 ⟨b_, 5, none⟩ w2 fun x42 =>
            seglaw_SameSeg.B1 a_ b_ (x40 != x42) w2  R)))))
theorem seglaw_SameSeg.B0_eq (a_0 a_1 a_2 a_3 a_4 a_5 : Int) (a_6_b : Option Addr) (a_6_l a_6_c : Nat) (b_0 b_1 b_2 b_3 b_4 b_5 : Int) (b_6_b : Option Addr) (b_6_l b_6_c : Nat) (w : World)   (R : Bool → World → Prop) (sB1 : Nat → Nat → Bool → World → Prop) :
    (
  New (.cells #[.int .i64 a_0, .int .i64 a_1, .int .i64 a_2, .int .i64 a_3, .int .i64 a_4, .int .i64 a_5, .slice a_6_b a_6_l a_6_c] 39) w fun a_ w1 =>
  New (.cells #[.int .i64 b_0, .int .i64 b_1, .int .i64 b_2, .int .i64 b_3, .int .i64 b_4, .int .i64 b_5, .slice b_6_b b_6_l b_6_c] 39) w1 fun b_ w2 =>
  LdI .i64 ⟨a_, 0, none⟩ w2 fun x6 =>
  LdI .i64 ⟨b_, 0, none⟩ w2 fun x8 =>
  Bm (x6 != x8) (
    sB1 a_ b_ true w2) (
    LdI .i64 ⟨a_, 1, none⟩ w2 fun x12 =>
    LdI .i64 ⟨b_, 1, none⟩ w2 fun x14 =>
    Bm (x12 != x14) (
      sB1 a_ b_ true w2) (
      LdI .i64 ⟨a_, 2, none⟩ w2 fun x19 =>
      LdI .i64 ⟨b_, 2, none⟩ w2 fun x21 =>
      Bm (x19 != x21) (
        sB1 a_ b_ true w2) (
        LdI .i64 ⟨a_, 3, none⟩ w2 fun x26 =>
        LdI .i64 ⟨b_, 3, none⟩ w2 fun x28 =>
        Bm (x26 != x28) (
          sB1 a_ b_ true w2) (
          LdI .i64 ⟨a_, 4, none⟩ w2 fun x33 =>
          LdI .i64 ⟨b_, 4, none⟩ w2 fun x35 =>
          Bm (x33 != x35) (
            sB1 a_ b_ true w2) (
            LdI .i64 ⟨a_, 5, none⟩ w2 fun x40 =>
            LdI .i64 ⟨b_, 5, none⟩ w2 fun x42 =>
            sB1 a_ b_ (x40 != x42) w2)))))) = kstep Try.prog 50 Try.f55.results.toList (Try.f55.body.getD .skip) (seglaw_SameSeg.RV R) (kvc Try.prog 50 Try.f55.results.toList (Try.f55.body.getD .skip) (seglaw_SameSeg.RV R) [([(0, [1, 0, 1]), (0, [1, 1])], fun σ w => dK (slotOf σ 2) fun a_ => dK (slotOf σ 3) fun b_ => dB (slotOf σ 44) fun t44_ => sB1 a_ b_ t44_ w)] 2000) [(0, [])] [(0, .agg #[.int .i64 a_0, .int .i64 a_1, .int .i64 a_2, .int .i64 a_3, .int .i64 a_4, .int .i64 a_5, .slice a_6_b a_6_l a_6_c]), (1, .agg #[.int .i64 b_0, .int .i64 b_1, .int .i64 b_2, .int .i64 b_3, .int .i64 b_4, .int .i64 b_5, .slice b_6_b b_6_l b_6_c])] w := by kernel_rfl
theorem seglaw_SameSeg.B0_sound {R : Bool → World → Prop}  (a_0 a_1 a_2 a_3 a_4 a_5 : Int) (a_6_b : Option Addr) (a_6_l a_6_c : Nat) (b_0 b_1 b_2 b_3 b_4 b_5 : Int) (b_6_b : Option Addr) (b_6_l b_6_c : Nat) (w : World) (h : seglaw_SameSeg.B0 a_0 a_1 a_2 a_3 a_4 a_5 a_6_b a_6_l a_6_c b_0 b_1 b_2 b_3 b_4 b_5 b_6_b b_6_l b_6_c w   R) :
    KW Try.prog 55 50 (seglaw_SameSeg.RV R) ([(0, [])].map (toItem (Try.f55.body.getD .skip))) [(0, .agg #[.int .i64 a_0, .int .i64 a_1, .int .i64 a_2, .int .i64 a_3, .int .i64 a_4, .int .i64 a_5, .slice a_6_b a_6_l a_6_c]), (1, .agg #[.int .i64 b_0, .int .i64 b_1, .int .i64 b_2, .int .i64 b_3, .int .i64 b_4, .int .i64 b_5, .slice b_6_b b_6_l b_6_c])] w := by
  exact block_spec Try.func55 Try.mixed (stops_cons (fun σ w h => by
      obtain ⟨a_, e0, h⟩ := dK_elim h
      obtain ⟨b_, e1, h⟩ := dK_elim h
      obtain ⟨t44_, e2, h⟩ := dB_elim h
      exact (seglaw_SameSeg.B1_sound  a_ b_ t44_ w h).weaken (Sub.cons (Sub.cons (Sub.cons (Sub.nil _) e2) e1) e0)) stops_nil) (Eq.mp (seglaw_SameSeg.B0_eq a_0 a_1 a_2 a_3 a_4 a_5 a_6_b a_6_l a_6_c b_0 b_1 b_2 b_3 b_4 b_5 b_6_b b_6_l b_6_c w   R (fun a_ b_ t44_ w => seglaw_SameSeg.B1 a_ b_ t44_ w  R)) h)
theorem seglaw_SameSeg.sound (a_0 a_1 a_2 a_3 a_4 a_5 : Int) (a_6_b : Option Addr) (a_6_l a_6_c : Nat) (b_0 b_1 b_2 b_3 b_4 b_5 : Int) (b_6_b : Option Addr) (b_6_l b_6_c : Nat) (w : World) (R : Bool → World → Prop) (h : seglaw_SameSeg.B0 a_0 a_1 a_2 a_3 a_4 a_5 a_6_b a_6_l a_6_c b_0 b_1 b_2 b_3 b_4 b_5 b_6_b b_6_l b_6_c w R) : seglaw_SameSeg.Call a_0 a_1 a_2 a_3 a_4 a_5 a_6_b a_6_l a_6_c b_0 b_1 b_2 b_3 b_4 b_5 b_6_b b_6_l b_6_c w R := by
  have hc := calls_of_block (args := #[.agg #[.int .i64 a_0, .int .i64 a_1, .int .i64 a_2, .int .i64 a_3, .int .i64 a_4, .int .i64 a_5, .slice a_6_b a_6_l a_6_c], .agg #[.int .i64 b_0, .int .i64 b_1, .int .i64 b_2, .int .i64 b_3, .int .i64 b_4, .int .i64 b_5, .slice b_6_b b_6_l b_6_c]]) Try.func55 (body := (Try.f55.body.getD .skip)) (by kernel_rfl) (by kernel_rfl) (args_slot _) (seglaw_SameSeg.B0_sound a_0 a_1 a_2 a_3 a_4 a_5 a_6_b a_6_l a_6_c b_0 b_1 b_2 b_3 b_4 b_5 b_6_b b_6_l b_6_c w h)
  exact hc.mono fun e w' he => by
    obtain ⟨v, rfl, hv⟩ := he
    exact seglaw_SameSeg.RV_elim hv
def api_CopyBytes.B0 (b_b : Option Addr) (b_l b_c : Nat) (w : World)   (R : Option Addr → Nat → Nat → World → Prop) : Prop :=
  Make 5 (.int .u8 (0 : Int)) 1 1 ((b_l : Nat) : Int) ((b_l : Nat) : Int) w fun b6 w1 =>
  Copy 1 (some ⟨b6, 0, none⟩) (((b_l : Nat) : Int).toNat) b_b b_l w1 fun n9 w2 =>
  R (some ⟨b6, 0, none⟩) (((b_l : Nat) : Int).toNat) (((b_l : Nat) : Int).toNat) w2
theorem api_CopyBytes.B0_eq (b_b : Option Addr) (b_l b_c : Nat) (w : World)   (R : Option Addr → Nat → Nat → World → Prop)  :
    (
  Make 5 (.int .u8 (0 : Int)) 1 1 ((b_l : Nat) : Int) ((b_l : Nat) : Int) w fun b6 w1 =>
  Copy 1 (some ⟨b6, 0, none⟩) (((b_l : Nat) : Int).toNat) b_b b_l w1 fun n9 w2 =>
  R (some ⟨b6, 0, none⟩) (((b_l : Nat) : Int).toNat) (((b_l : Nat) : Int).toNat) w2) = kstep Try.prog 11 Try.f56.results.toList (Try.f56.body.getD .skip) (api_CopyBytes.RV R) (kvc Try.prog 11 Try.f56.results.toList (Try.f56.body.getD .skip) (api_CopyBytes.RV R) [] 2000) [(0, [])] [(0, .slice b_b b_l b_c)] w := by kernel_rfl
theorem api_CopyBytes.B0_sound {R : Option Addr → Nat → Nat → World → Prop}  (b_b : Option Addr) (b_l b_c : Nat) (w : World) (h : api_CopyBytes.B0 b_b b_l b_c w   R) :
    KW Try.prog 56 11 (api_CopyBytes.RV R) ([(0, [])].map (toItem (Try.f56.body.getD .skip))) [(0, .slice b_b b_l b_c)] w := by
  exact block_spec Try.func56 Try.mixed stops_nil (Eq.mp (api_CopyBytes.B0_eq b_b b_l b_c w   R ) h)
theorem api_CopyBytes.sound (b_b : Option Addr) (b_l b_c : Nat) (w : World) (R : Option Addr → Nat → Nat → World → Prop) (h : api_CopyBytes.B0 b_b b_l b_c w R) : api_CopyBytes.Call b_b b_l b_c w R := by
  have hc := calls_of_block (args := #[.slice b_b b_l b_c]) Try.func56 (body := (Try.f56.body.getD .skip)) (by kernel_rfl) (by kernel_rfl) (args_slot _) (api_CopyBytes.B0_sound b_b b_l b_c w h)
  exact hc.mono fun e w' he => by
    obtain ⟨v, rfl, hv⟩ := he
    exact api_CopyBytes.RV_elim hv
def seg_SendBuf_Reset.B0 (b : Option Addr) (seq : Int) (w : World)   (R : World → Prop) : Prop :=
  api_SeqAdd.Call seq (0 : Int) w fun r6 w1 =>
  Pn b fun a =>
  Sts [.int .u8 (IntKind.u8.wrap r6)] (a.add 19) 0 w1 fun w2 =>
  Pn b fun a_1 =>
  Sts [.int .i64 (0 : Int)] (a_1.add 16) 0 w2 fun w3 =>
  Pn b fun a_2 =>
  Sts [.int .i64 (0 : Int)] (a_2.add 17) 0 w3 fun w4 =>
  Pn b fun a_3 =>
  Sts [.int .i64 (0 : Int)] (a_3.add 18) 0 w4 fun w5 =>
  R  w5
theorem seg_SendBuf_Reset.B0_eq (b : Option Addr) (seq : Int) (w : World)   (R : World → Prop)  :
    (
  api_SeqAdd.Call seq (0 : Int) w fun r6 w1 =>
  Pn b fun a =>
  Sts [.int .u8 (IntKind.u8.wrap r6)] (a.add 19) 0 w1 fun w2 =>
  Pn b fun a_1 =>
  Sts [.int .i64 (0 : Int)] (a_1.add 16) 0 w2 fun w3 =>
  Pn b fun a_2 =>
  Sts [.int .i64 (0 : Int)] (a_2.add 17) 0 w3 fun w4 =>
  Pn b fun a_3 =>
  Sts [.int .i64 (0 : Int)] (a_3.add 18) 0 w4 fun w5 =>
  R  w5) = kstep Try.prog 21 Try.f57.results.toList (Try.f57.body.getD .skip) (seg_SendBuf_Reset.RV R) (kvc Try.prog 21 Try.f57.results.toList (Try.f57.body.getD .skip) (seg_SendBuf_Reset.RV R) [] 2000) [(0, [])] [(0, .pointer b), (1, .int .i64 seq)] w := by kernel_rfl
theorem seg_SendBuf_Reset.B0_sound {R : World → Prop}  (b : Option Addr) (seq : Int) (w : World) (h : seg_SendBuf_Reset.B0 b seq w   R) :
    KW Try.prog 57 21 (seg_SendBuf_Reset.RV R) ([(0, [])].map (toItem (Try.f57.body.getD .skip))) [(0, .pointer b), (1, .int .i64 seq)] w := by
  exact block_spec Try.func57 Try.mixed stops_nil (Eq.mp (seg_SendBuf_Reset.B0_eq b seq w   R ) h)
theorem seg_SendBuf_Reset.sound (b : Option Addr) (seq : Int) (w : World) (R : World → Prop) (h : seg_SendBuf_Reset.B0 b seq w R) : seg_SendBuf_Reset.Call b seq w R := by
  have hc := calls_of_block (args := #[.pointer b, .int .i64 seq]) Try.func57 (body := (Try.f57.body.getD .skip)) (by kernel_rfl) (by kernel_rfl) (args_slot _) (seg_SendBuf_Reset.B0_sound b seq w h)
  exact hc.mono fun e w' he => by
    obtain ⟨v, rfl, hv⟩ := he
    exact seg_SendBuf_Reset.RV_elim hv
def segm_SendBuf_Reset.B0 (b : Option Addr) (seq : Int) (w : World)   (R : World → Prop) : Prop :=
  api_SeqAdd.Call seq (0 : Int) w fun r6 w1 =>
  Pn b fun a =>
  Sts [.int .i64 r6] a 0 w1 fun w2 =>
  Pn b fun a_1 =>
  Sts [.slice none 0 0] (a_1.add 1) 0 w2 fun w3 =>
  Pn b fun a_2 =>
  Sts [.int .i64 (0 : Int)] (a_2.add 2) 0 w3 fun w4 =>
  R  w4
theorem segm_SendBuf_Reset.B0_eq (b : Option Addr) (seq : Int) (w : World)   (R : World → Prop)  :
    (
  api_SeqAdd.Call seq (0 : Int) w fun r6 w1 =>
  Pn b fun a =>
  Sts [.int .i64 r6] a 0 w1 fun w2 =>
  Pn b fun a_1 =>
  Sts [.slice none 0 0] (a_1.add 1) 0 w2 fun w3 =>
  Pn b fun a_2 =>
  Sts [.int .i64 (0 : Int)] (a_2.add 2) 0 w3 fun w4 =>
  R  w4) = kstep Try.prog 15 Try.f58.results.toList (Try.f58.body.getD .skip) (segm_SendBuf_Reset.RV R) (kvc Try.prog 15 Try.f58.results.toList (Try.f58.body.getD .skip) (segm_SendBuf_Reset.RV R) [] 2000) [(0, [])] [(0, .pointer b), (1, .int .i64 seq)] w := by kernel_rfl
theorem segm_SendBuf_Reset.B0_sound {R : World → Prop}  (b : Option Addr) (seq : Int) (w : World) (h : segm_SendBuf_Reset.B0 b seq w   R) :
    KW Try.prog 58 15 (segm_SendBuf_Reset.RV R) ([(0, [])].map (toItem (Try.f58.body.getD .skip))) [(0, .pointer b), (1, .int .i64 seq)] w := by
  exact block_spec Try.func58 Try.mixed stops_nil (Eq.mp (segm_SendBuf_Reset.B0_eq b seq w   R ) h)
theorem segm_SendBuf_Reset.sound (b : Option Addr) (seq : Int) (w : World) (R : World → Prop) (h : segm_SendBuf_Reset.B0 b seq w R) : segm_SendBuf_Reset.Call b seq w R := by
  have hc := calls_of_block (args := #[.pointer b, .int .i64 seq]) Try.func58 (body := (Try.f58.body.getD .skip)) (by kernel_rfl) (by kernel_rfl) (args_slot _) (segm_SendBuf_Reset.B0_sound b seq w h)
  exact hc.mono fun e w' he => by
    obtain ⟨v, rfl, hv⟩ := he
    exact segm_SendBuf_Reset.RV_elim hv
def seg_SendBuf_Put.B1 (b p_b : Option Addr) (p_l p_c : Nat) (n at0 first : Int) (w : World)   (R : Int → World → Prop) : Prop :=
  Pn b fun a =>
  (0 ≤ (IntKind.i64.wrap (at0 + first)) ∧ (IntKind.i64.wrap (at0 + first)) ≤ ((16 : Nat) : Int)) ∧
  (0 ≤ at0 ∧ at0 ≤ (IntKind.i64.wrap (at0 + first))) ∧
  (0 ≤ first ∧ first ≤ ((p_c : Nat) : Int)) ∧
  Copy 1 (some (slBaseA a at0 ((16 : Nat) : Int) 1)) ((IntKind.i64.wrap (at0 + first)).toNat - at0.toNat) (slBase p_b ((0 : Nat) : Int) ((p_c : Nat) : Int) 1) (first.toNat - ((0 : Nat) : Int).toNat) w.drew fun n43 w1 =>
  Pn b fun a_1 =>
  (0 ≤ (IntKind.i64.wrap (n - first)) ∧ (IntKind.i64.wrap (n - first)) ≤ ((16 : Nat) : Int)) ∧
  (0 ≤ n ∧ n ≤ ((p_c : Nat) : Int)) ∧
  (0 ≤ first ∧ first ≤ n) ∧
  Copy 1 (some (slBaseA a_1 ((0 : Nat) : Int) ((16 : Nat) : Int) 1)) ((IntKind.i64.wrap (n - first)).toNat - ((0 : Nat) : Int).toNat) (slBase p_b first ((p_c : Nat) : Int) 1) (n.toNat - first.toNat) w1.drew fun n55 w2 =>
  Pn b fun a_2 =>
  LdI .i64 (a_2.add 17) w2 fun x59 =>
  Pn b fun a_3 =>
  Sts [.int .i64 (IntKind.i64.wrap (x59 + n))] (a_3.add 17) 0 w2 fun w3 =>
  R n w3
theorem seg_SendBuf_Put.B1_eq (b p_b : Option Addr) (p_l p_c : Nat) (n at0 first : Int) (w : World)   (R : Int → World → Prop)  :
    (
  Pn b fun a =>
  (0 ≤ (IntKind.i64.wrap (at0 + first)) ∧ (IntKind.i64.wrap (at0 + first)) ≤ ((16 : Nat) : Int)) ∧
  (0 ≤ at0 ∧ at0 ≤ (IntKind.i64.wrap (at0 + first))) ∧
  (0 ≤ first ∧ first ≤ ((p_c : Nat) : Int)) ∧
  Copy 1 (some (slBaseA a at0 ((16 : Nat) : Int) 1)) ((IntKind.i64.wrap (at0 + first)).toNat - at0.toNat) (slBase p_b ((0 : Nat) : Int) ((p_c : Nat) : Int) 1) (first.toNat - ((0 : Nat) : Int).toNat) w.drew fun n43 w1 =>
  Pn b fun a_1 =>
  (0 ≤ (IntKind.i64.wrap (n - first)) ∧ (IntKind.i64.wrap (n - first)) ≤ ((16 : Nat) : Int)) ∧
  (0 ≤ n ∧ n ≤ ((p_c : Nat) : Int)) ∧
  (0 ≤ first ∧ first ≤ n) ∧
  Copy 1 (some (slBaseA a_1 ((0 : Nat) : Int) ((16 : Nat) : Int) 1)) ((IntKind.i64.wrap (n - first)).toNat - ((0 : Nat) : Int).toNat) (slBase p_b first ((p_c : Nat) : Int) 1) (n.toNat - first.toNat) w1.drew fun n55 w2 =>
  Pn b fun a_2 =>
  LdI .i64 (a_2.add 17) w2 fun x59 =>
  Pn b fun a_3 =>
  Sts [.int .i64 (IntKind.i64.wrap (x59 + n))] (a_3.add 17) 0 w2 fun w3 =>
  R n w3) = kstep Try.prog 65 Try.f59.results.toList (Try.f59.body.getD .skip) (seg_SendBuf_Put.RV R) (kvc Try.prog 65 Try.f59.results.toList (Try.f59.body.getD .skip) (seg_SendBuf_Put.RV R) [] 2000) [(0, [1, 1, 1, 1, 1])] [(0, .pointer b), (1, .slice p_b p_l p_c), (5, .int .i64 n), (6, .int .i64 at0), (7, .int .i64 first)] w := by kernel_rfl
theorem seg_SendBuf_Put.B1_sound {R : Int → World → Prop}  (b p_b : Option Addr) (p_l p_c : Nat) (n at0 first : Int) (w : World) (h : seg_SendBuf_Put.B1 b p_b p_l p_c n at0 first w   R) :
    KW Try.prog 59 65 (seg_SendBuf_Put.RV R) ([(0, [1, 1, 1, 1, 1])].map (toItem (Try.f59.body.getD .skip))) [(0, .pointer b), (1, .slice p_b p_l p_c), (5, .int .i64 n), (6, .int .i64 at0), (7, .int .i64 first)] w := by
  exact block_spec Try.func59 Try.mixed stops_nil (Eq.mp (seg_SendBuf_Put.B1_eq b p_b p_l p_c n at0 first w   R ) h)
def seg_SendBuf_Put.B0 (b p_b : Option Addr) (p_l p_c : Nat) (w : World)   (R : Int → World → Prop) : Prop :=
  Pn b fun a =>
  LdI .i64 (a.add 17) w fun x13 =>
  seg_least.Call ((p_l : Nat) : Int) (IntKind.i64.wrap ((16 : Int) - x13)) w fun r15 w1 =>
  Pn b fun a_1 =>
  LdI .i64 (a_1.add 16) w1.drew fun x19 =>
  Pn b fun a_2 =>
  LdI .i64 (a_2.add 17) w1.drew fun x23 =>
  (16 : Int) ≠ 0 ∧
  Bm (decide ((IntKind.i64.wrap ((16 : Int) - ((IntKind.i64.wrap (x19 + x23)).tmod (16 : Int)))) > r15)) (
    seg_SendBuf_Put.B1 b p_b p_l p_c r15 ((IntKind.i64.wrap (x19 + x23)).tmod (16 : Int)) r15 w1.drew  R) (
    seg_SendBuf_Put.B1 b p_b p_l p_c r15 ((IntKind.i64.wrap (x19 + x23)).tmod (16 : Int)) (IntKind.i64.wrap ((16 : Int) - ((IntKind.i64.wrap (x19 + x23)).tmod (16 : Int)))) w1.drew  R)
theorem seg_SendBuf_Put.B0_eq (b p_b : Option Addr) (p_l p_c : Nat) (w : World)   (R : Int → World → Prop) (sB1 : Option Addr → Option Addr → Nat → Nat → Int → Int → Int → World → Prop) :
    (
  Pn b fun a =>
  LdI .i64 (a.add 17) w fun x13 =>
  seg_least.Call ((p_l : Nat) : Int) (IntKind.i64.wrap ((16 : Int) - x13)) w fun r15 w1 =>
  Pn b fun a_1 =>
  LdI .i64 (a_1.add 16) w1.drew fun x19 =>
  Pn b fun a_2 =>
  LdI .i64 (a_2.add 17) w1.drew fun x23 =>
  (16 : Int) ≠ 0 ∧
  Bm (decide ((IntKind.i64.wrap ((16 : Int) - ((IntKind.i64.wrap (x19 + x23)).tmod (16 : Int)))) > r15)) (
    sB1 b p_b p_l p_c r15 ((IntKind.i64.wrap (x19 + x23)).tmod (16 : Int)) r15 w1.drew) (
    sB1 b p_b p_l p_c r15 ((IntKind.i64.wrap (x19 + x23)).tmod (16 : Int)) (IntKind.i64.wrap ((16 : Int) - ((IntKind.i64.wrap (x19 + x23)).tmod (16 : Int)))) w1.drew)) = kstep Try.prog 65 Try.f59.results.toList (Try.f59.body.getD .skip) (seg_SendBuf_Put.RV R) (kvc Try.prog 65 Try.f59.results.toList (Try.f59.body.getD .skip) (seg_SendBuf_Put.RV R) [([(0, [1, 1, 1, 1, 1])], fun σ w => dP (slotOf σ 0) fun b_ => dL (slotOf σ 1) fun p_b_ p_l_ p_c_ => dI .i64 (slotOf σ 5) fun n_ => dI .i64 (slotOf σ 6) fun at0_ => dI .i64 (slotOf σ 7) fun first_ => sB1 b_ p_b_ p_l_ p_c_ n_ at0_ first_ w)] 2000) [(0, [])] [(0, .pointer b), (1, .slice p_b p_l p_c)] w := by kernel_rfl
theorem seg_SendBuf_Put.B0_sound {R : Int → World → Prop}  (b p_b : Option Addr) (p_l p_c : Nat) (w : World) (h : seg_SendBuf_Put.B0 b p_b p_l p_c w   R) :
    KW Try.prog 59 65 (seg_SendBuf_Put.RV R) ([(0, [])].map (toItem (Try.f59.body.getD .skip))) [(0, .pointer b), (1, .slice p_b p_l p_c)] w := by
  exact block_spec Try.func59 Try.mixed (stops_cons (fun σ w h => by
      obtain ⟨b_, e0, h⟩ := dP_elim h
      obtain ⟨p_b_, p_l_, p_c_, e1, h⟩ := dL_elim h
      obtain ⟨n_, e2, h⟩ := dI_elim h
      obtain ⟨at0_, e3, h⟩ := dI_elim h
      obtain ⟨first_, e4, h⟩ := dI_elim h
      exact (seg_SendBuf_Put.B1_sound  b_ p_b_ p_l_ p_c_ n_ at0_ first_ w h).weaken (Sub.cons (Sub.cons (Sub.cons (Sub.cons (Sub.cons (Sub.nil _) e4) e3) e2) e1) e0)) stops_nil) (Eq.mp (seg_SendBuf_Put.B0_eq b p_b p_l p_c w   R (fun b_ p_b_ p_l_ p_c_ n_ at0_ first_ w => seg_SendBuf_Put.B1 b_ p_b_ p_l_ p_c_ n_ at0_ first_ w  R)) h)
theorem seg_SendBuf_Put.sound (b p_b : Option Addr) (p_l p_c : Nat) (w : World) (R : Int → World → Prop) (h : seg_SendBuf_Put.B0 b p_b p_l p_c w R) : seg_SendBuf_Put.Call b p_b p_l p_c w R := by
  have hc := calls_of_block (args := #[.pointer b, .slice p_b p_l p_c]) Try.func59 (body := (Try.f59.body.getD .skip)) (by kernel_rfl) (by kernel_rfl) (args_slot _) (seg_SendBuf_Put.B0_sound b p_b p_l p_c w h)
  exact hc.mono fun e w' he => by
    obtain ⟨v, rfl, hv⟩ := he
    exact seg_SendBuf_Put.RV_elim hv
def segm_SendBuf_Put.B1 (b p_b : Option Addr) (p_l p_c : Nat) (n : Int) (w : World)   (R : Int → World → Prop) : Prop :=
  Pn b fun a =>
  LdL (a.add 1) w.drew fun x22_b x22_l x22_c =>
  (0 ≤ n ∧ n ≤ ((p_c : Nat) : Int)) ∧
  api_CopyBytes.Call x22_b x22_l x22_c w.drew fun r23_b r23_l r23_c w1 =>
  Append 5 (.int .u8 (0 : Int)) 1 1 r23_b r23_l r23_c (slBase p_b ((0 : Nat) : Int) ((p_c : Nat) : Int) 1) (n.toNat - ((0 : Nat) : Int).toNat) w1 fun b27 c27 w2 =>
  Pn b fun a_1 =>
  Sts [.slice b27 (r23_l + (n.toNat - ((0 : Nat) : Int).toNat)) c27] (a_1.add 1) 0 w2 fun w3 =>
  R n w3
theorem segm_SendBuf_Put.B1_eq (b p_b : Option Addr) (p_l p_c : Nat) (n : Int) (w : World)   (R : Int → World → Prop)  :
    (
  Pn b fun a =>
  LdL (a.add 1) w.drew fun x22_b x22_l x22_c =>
  (0 ≤ n ∧ n ≤ ((p_c : Nat) : Int)) ∧
  api_CopyBytes.Call x22_b x22_l x22_c w.drew fun r23_b r23_l r23_c w1 =>
  Append 5 (.int .u8 (0 : Int)) 1 1 r23_b r23_l r23_c (slBase p_b ((0 : Nat) : Int) ((p_c : Nat) : Int) 1) (n.toNat - ((0 : Nat) : Int).toNat) w1 fun b27 c27 w2 =>
  Pn b fun a_1 =>
  Sts [.slice b27 (r23_l + (n.toNat - ((0 : Nat) : Int).toNat)) c27] (a_1.add 1) 0 w2 fun w3 =>
  R n w3) = kstep Try.prog 31 Try.f60.results.toList (Try.f60.body.getD .skip) (segm_SendBuf_Put.RV R) (kvc Try.prog 31 Try.f60.results.toList (Try.f60.body.getD .skip) (segm_SendBuf_Put.RV R) [] 2000) [(0, [1, 1, 1])] [(0, .pointer b), (1, .slice p_b p_l p_c), (5, .int .i64 n)] w := by kernel_rfl
theorem segm_SendBuf_Put.B1_sound {R : Int → World → Prop}  (b p_b : Option Addr) (p_l p_c : Nat) (n : Int) (w : World) (h : segm_SendBuf_Put.B1 b p_b p_l p_c n w   R) :
    KW Try.prog 60 31 (segm_SendBuf_Put.RV R) ([(0, [1, 1, 1])].map (toItem (Try.f60.body.getD .skip))) [(0, .pointer b), (1, .slice p_b p_l p_c), (5, .int .i64 n)] w := by
  exact block_spec Try.func60 Try.mixed stops_nil (Eq.mp (segm_SendBuf_Put.B1_eq b p_b p_l p_c n w   R ) h)
def segm_SendBuf_Put.B0 (b p_b : Option Addr) (p_l p_c : Nat) (w : World)   (R : Int → World → Prop) : Prop :=
  Pn b fun a =>
  LdL (a.add 1) w fun x9_b x9_l x9_c =>
  Bm (decide ((IntKind.i64.wrap ((16 : Int) - ((x9_l : Nat) : Int))) > ((p_l : Nat) : Int))) (
    segm_SendBuf_Put.B1 b p_b p_l p_c ((p_l : Nat) : Int) w  R) (
    segm_SendBuf_Put.B1 b p_b p_l p_c (IntKind.i64.wrap ((16 : Int) - ((x9_l : Nat) : Int))) w  R)
theorem segm_SendBuf_Put.B0_eq (b p_b : Option Addr) (p_l p_c : Nat) (w : World)   (R : Int → World → Prop) (sB1 : Option Addr → Option Addr → Nat → Nat → Int → World → Prop) :
    (
  Pn b fun a =>
  LdL (a.add 1) w fun x9_b x9_l x9_c =>
  Bm (decide ((IntKind.i64.wrap ((16 : Int) - ((x9_l : Nat) : Int))) > ((p_l : Nat) : Int))) (
    sB1 b p_b p_l p_c ((p_l : Nat) : Int) w) (
    sB1 b p_b p_l p_c (IntKind.i64.wrap ((16 : Int) - ((x9_l : Nat) : Int))) w)) = kstep Try.prog 31 Try.f60.results.toList (Try.f60.body.getD .skip) (segm_SendBuf_Put.RV R) (kvc Try.prog 31 Try.f60.results.toList (Try.f60.body.getD .skip) (segm_SendBuf_Put.RV R) [([(0, [1, 1, 1])], fun σ w => dP (slotOf σ 0) fun b_ => dL (slotOf σ 1) fun p_b_ p_l_ p_c_ => dI .i64 (slotOf σ 5) fun n_ => sB1 b_ p_b_ p_l_ p_c_ n_ w)] 2000) [(0, [])] [(0, .pointer b), (1, .slice p_b p_l p_c)] w := by kernel_rfl
theorem segm_SendBuf_Put.B0_sound {R : Int → World → Prop}  (b p_b : Option Addr) (p_l p_c : Nat) (w : World) (h : segm_SendBuf_Put.B0 b p_b p_l p_c w   R) :
    KW Try.prog 60 31 (segm_SendBuf_Put.RV R) ([(0, [])].map (toItem (Try.f60.body.getD .skip))) [(0, .pointer b), (1, .slice p_b p_l p_c)] w := by
  exact block_spec Try.func60 Try.mixed (stops_cons (fun σ w h => by
      obtain ⟨b_, e0, h⟩ := dP_elim h
      obtain ⟨p_b_, p_l_, p_c_, e1, h⟩ := dL_elim h
      obtain ⟨n_, e2, h⟩ := dI_elim h
      exact (segm_SendBuf_Put.B1_sound  b_ p_b_ p_l_ p_c_ n_ w h).weaken (Sub.cons (Sub.cons (Sub.cons (Sub.nil _) e2) e1) e0)) stops_nil) (Eq.mp (segm_SendBuf_Put.B0_eq b p_b p_l p_c w   R (fun b_ p_b_ p_l_ p_c_ n_ w => segm_SendBuf_Put.B1 b_ p_b_ p_l_ p_c_ n_ w  R)) h)
theorem segm_SendBuf_Put.sound (b p_b : Option Addr) (p_l p_c : Nat) (w : World) (R : Int → World → Prop) (h : segm_SendBuf_Put.B0 b p_b p_l p_c w R) : segm_SendBuf_Put.Call b p_b p_l p_c w R := by
  have hc := calls_of_block (args := #[.pointer b, .slice p_b p_l p_c]) Try.func60 (body := (Try.f60.body.getD .skip)) (by kernel_rfl) (by kernel_rfl) (args_slot _) (segm_SendBuf_Put.B0_sound b p_b p_l p_c w h)
  exact hc.mono fun e w' he => by
    obtain ⟨v, rfl, hv⟩ := he
    exact segm_SendBuf_Put.RV_elim hv
def seg_SendBuf_Next.B0 (b : Option Addr) (max : Int) (w : World)   (R : Int → Option Addr → Nat → Nat → World → Prop) : Prop :=
  Pn b fun a =>
  LdI .i64 (a.add 17) w.drew fun x13 =>
  Pn b fun a_1 =>
  LdI .i64 (a_1.add 18) w.drew fun x17 =>
  seg_least.Call max (IntKind.i64.wrap (x13 - x17)) w.drew fun r19 w1 =>
  seg_SendBuf_Nxt.Call b w1 fun r21 w2 =>
  Pn b fun a_2 =>
  LdI .i64 (a_2.add 18) w2 fun x26 =>
  seg_SendBuf_span.Call b x26 r19 w2 fun r28_b r28_l r28_c w3 =>
  Pn b fun a_3 =>
  LdI .i64 (a_3.add 18) w3 fun x32 =>
  Pn b fun a_4 =>
  Sts [.int .i64 (IntKind.i64.wrap (x32 + r19))] (a_4.add 18) 0 w3 fun w4 =>
  R r21 r28_b r28_l r28_c w4
theorem seg_SendBuf_Next.B0_eq (b : Option Addr) (max : Int) (w : World)   (R : Int → Option Addr → Nat → Nat → World → Prop)  :
    (
  Pn b fun a =>
  LdI .i64 (a.add 17) w.drew fun x13 =>
  Pn b fun a_1 =>
  LdI .i64 (a_1.add 18) w.drew fun x17 =>
  seg_least.Call max (IntKind.i64.wrap (x13 - x17)) w.drew fun r19 w1 =>
  seg_SendBuf_Nxt.Call b w1 fun r21 w2 =>
  Pn b fun a_2 =>
  LdI .i64 (a_2.add 18) w2 fun x26 =>
  seg_SendBuf_span.Call b x26 r19 w2 fun r28_b r28_l r28_c w3 =>
  Pn b fun a_3 =>
  LdI .i64 (a_3.add 18) w3 fun x32 =>
  Pn b fun a_4 =>
  Sts [.int .i64 (IntKind.i64.wrap (x32 + r19))] (a_4.add 18) 0 w3 fun w4 =>
  R r21 r28_b r28_l r28_c w4) = kstep Try.prog 39 Try.f61.results.toList (Try.f61.body.getD .skip) (seg_SendBuf_Next.RV R) (kvc Try.prog 39 Try.f61.results.toList (Try.f61.body.getD .skip) (seg_SendBuf_Next.RV R) [] 2000) [(0, [])] [(0, .pointer b), (1, .int .i64 max)] w := by kernel_rfl
theorem seg_SendBuf_Next.B0_sound {R : Int → Option Addr → Nat → Nat → World → Prop}  (b : Option Addr) (max : Int) (w : World) (h : seg_SendBuf_Next.B0 b max w   R) :
    KW Try.prog 61 39 (seg_SendBuf_Next.RV R) ([(0, [])].map (toItem (Try.f61.body.getD .skip))) [(0, .pointer b), (1, .int .i64 max)] w := by
  exact block_spec Try.func61 Try.mixed stops_nil (Eq.mp (seg_SendBuf_Next.B0_eq b max w   R ) h)
theorem seg_SendBuf_Next.sound (b : Option Addr) (max : Int) (w : World) (R : Int → Option Addr → Nat → Nat → World → Prop) (h : seg_SendBuf_Next.B0 b max w R) : seg_SendBuf_Next.Call b max w R := by
  have hc := calls_of_block (args := #[.pointer b, .int .i64 max]) Try.func61 (body := (Try.f61.body.getD .skip)) (by kernel_rfl) (by kernel_rfl) (args_slot _) (seg_SendBuf_Next.B0_sound b max w h)
  exact hc.mono fun e w' he => by
    obtain ⟨v, rfl, hv⟩ := he
    exact seg_SendBuf_Next.RV_elim hv
def segm_SendBuf_Next.B2 (b : Option Addr) (n : Int) (w : World)   (R : Int → Option Addr → Nat → Nat → World → Prop) : Prop :=
  segm_SendBuf_Nxt.Call b w fun r26 w1 =>
  Pn b fun a =>
  LdL (a.add 1) w1.drew fun x30_b x30_l x30_c =>
  Pn b fun a_1 =>
  LdI .i64 (a_1.add 2) w1.drew fun x34 =>
  Pn b fun a_2 =>
  LdI .i64 (a_2.add 2) w1.drew fun x38 =>
  (0 ≤ (IntKind.i64.wrap (x38 + n)) ∧ (IntKind.i64.wrap (x38 + n)) ≤ ((x30_c : Nat) : Int)) ∧
  (0 ≤ x34 ∧ x34 ≤ (IntKind.i64.wrap (x38 + n))) ∧
  api_CopyBytes.Call (slBase x30_b x34 ((x30_c : Nat) : Int) 1) ((IntKind.i64.wrap (x38 + n)).toNat - x34.toNat) (((x30_c : Nat) : Int).toNat - x34.toNat) w1.drew fun r42_b r42_l r42_c w2 =>
  Pn b fun a_3 =>
  LdI .i64 (a_3.add 2) w2 fun x46 =>
  Pn b fun a_4 =>
  Sts [.int .i64 (IntKind.i64.wrap (x46 + n))] (a_4.add 2) 0 w2 fun w3 =>
  R r26 r42_b r42_l r42_c w3
theorem segm_SendBuf_Next.B2_eq (b : Option Addr) (n : Int) (w : World)   (R : Int → Option Addr → Nat → Nat → World → Prop)  :
    (
  segm_SendBuf_Nxt.Call b w fun r26 w1 =>
  Pn b fun a =>
  LdL (a.add 1) w1.drew fun x30_b x30_l x30_c =>
  Pn b fun a_1 =>
  LdI .i64 (a_1.add 2) w1.drew fun x34 =>
  Pn b fun a_2 =>
  LdI .i64 (a_2.add 2) w1.drew fun x38 =>
  (0 ≤ (IntKind.i64.wrap (x38 + n)) ∧ (IntKind.i64.wrap (x38 + n)) ≤ ((x30_c : Nat) : Int)) ∧
  (0 ≤ x34 ∧ x34 ≤ (IntKind.i64.wrap (x38 + n))) ∧
  api_CopyBytes.Call (slBase x30_b x34 ((x30_c : Nat) : Int) 1) ((IntKind.i64.wrap (x38 + n)).toNat - x34.toNat) (((x30_c : Nat) : Int).toNat - x34.toNat) w1.drew fun r42_b r42_l r42_c w2 =>
  Pn b fun a_3 =>
  LdI .i64 (a_3.add 2) w2 fun x46 =>
  Pn b fun a_4 =>
  Sts [.int .i64 (IntKind.i64.wrap (x46 + n))] (a_4.add 2) 0 w2 fun w3 =>
  R r26 r42_b r42_l r42_c w3) = kstep Try.prog 53 Try.f62.results.toList (Try.f62.body.getD .skip) (segm_SendBuf_Next.RV R) (kvc Try.prog 53 Try.f62.results.toList (Try.f62.body.getD .skip) (segm_SendBuf_Next.RV R) [] 2000) [(0, [1, 1, 1, 1])] [(0, .pointer b), (6, .int .i64 n)] w := by kernel_rfl
theorem segm_SendBuf_Next.B2_sound {R : Int → Option Addr → Nat → Nat → World → Prop}  (b : Option Addr) (n : Int) (w : World) (h : segm_SendBuf_Next.B2 b n w   R) :
    KW Try.prog 62 53 (segm_SendBuf_Next.RV R) ([(0, [1, 1, 1, 1])].map (toItem (Try.f62.body.getD .skip))) [(0, .pointer b), (6, .int .i64 n)] w := by
  exact block_spec Try.func62 Try.mixed stops_nil (Eq.mp (segm_SendBuf_Next.B2_eq b n w   R ) h)
def segm_SendBuf_Next.B1 (b : Option Addr) (n : Int) (w : World)   (R : Int → Option Addr → Nat → Nat → World → Prop) : Prop :=
  Bm (decide (n < (0 : Int))) (
    segm_SendBuf_Next.B2 b (0 : Int) w  R) (
    segm_SendBuf_Next.B2 b n w  R)
theorem segm_SendBuf_Next.B1_eq (b : Option Addr) (n : Int) (w : World)   (R : Int → Option Addr → Nat → Nat → World → Prop) (sB2 : Option Addr → Int → World → Prop) :
    (
  Bm (decide (n < (0 : Int))) (
    sB2 b (0 : Int) w) (
    sB2 b n w)) = kstep Try.prog 53 Try.f62.results.toList (Try.f62.body.getD .skip) (segm_SendBuf_Next.RV R) (kvc Try.prog 53 Try.f62.results.toList (Try.f62.body.getD .skip) (segm_SendBuf_Next.RV R) [([(0, [1, 1, 1, 1])], fun σ w => dP (slotOf σ 0) fun b_ => dI .i64 (slotOf σ 6) fun n_ => sB2 b_ n_ w)] 2000) [(0, [1, 1, 1])] [(0, .pointer b), (6, .int .i64 n)] w := by kernel_rfl
theorem segm_SendBuf_Next.B1_sound {R : Int → Option Addr → Nat → Nat → World → Prop}  (b : Option Addr) (n : Int) (w : World) (h : segm_SendBuf_Next.B1 b n w   R) :
    KW Try.prog 62 53 (segm_SendBuf_Next.RV R) ([(0, [1, 1, 1])].map (toItem (Try.f62.body.getD .skip))) [(0, .pointer b), (6, .int .i64 n)] w := by
  exact block_spec Try.func62 Try.mixed (stops_cons (fun σ w h => by
      obtain ⟨b_, e0, h⟩ := dP_elim h
      obtain ⟨n_, e1, h⟩ := dI_elim h
      exact (segm_SendBuf_Next.B2_sound  b_ n_ w h).weaken (Sub.cons (Sub.cons (Sub.nil _) e1) e0)) stops_nil) (Eq.mp (segm_SendBuf_Next.B1_eq b n w   R (fun b_ n_ w => segm_SendBuf_Next.B2 b_ n_ w  R)) h)
def segm_SendBuf_Next.B0 (b : Option Addr) (max : Int) (w : World)   (R : Int → Option Addr → Nat → Nat → World → Prop) : Prop :=
  Pn b fun a =>
  LdL (a.add 1) w.drew fun x12_b x12_l x12_c =>
  Pn b fun a_1 =>
  LdI .i64 (a_1.add 2) w.drew fun x17 =>
  Bm (decide ((IntKind.i64.wrap (((x12_l : Nat) : Int) - x17)) > max)) (
    segm_SendBuf_Next.B1 b max w.drew  R) (
    segm_SendBuf_Next.B1 b (IntKind.i64.wrap (((x12_l : Nat) : Int) - x17)) w.drew  R)
theorem segm_SendBuf_Next.B0_eq (b : Option Addr) (max : Int) (w : World)   (R : Int → Option Addr → Nat → Nat → World → Prop) (sB1 : Option Addr → Int → World → Prop) :
    (
  Pn b fun a =>
  LdL (a.add 1) w.drew fun x12_b x12_l x12_c =>
  Pn b fun a_1 =>
  LdI .i64 (a_1.add 2) w.drew fun x17 =>
  Bm (decide ((IntKind.i64.wrap (((x12_l : Nat) : Int) - x17)) > max)) (
    sB1 b max w.drew) (
    sB1 b (IntKind.i64.wrap (((x12_l : Nat) : Int) - x17)) w.drew)) = kstep Try.prog 53 Try.f62.results.toList (Try.f62.body.getD .skip) (segm_SendBuf_Next.RV R) (kvc Try.prog 53 Try.f62.results.toList (Try.f62.body.getD .skip) (segm_SendBuf_Next.RV R) [([(0, [1, 1, 1])], fun σ w => dP (slotOf σ 0) fun b_ => dI .i64 (slotOf σ 6) fun n_ => sB1 b_ n_ w)] 2000) [(0, [])] [(0, .pointer b), (1, .int .i64 max)] w := by kernel_rfl
theorem segm_SendBuf_Next.B0_sound {R : Int → Option Addr → Nat → Nat → World → Prop}  (b : Option Addr) (max : Int) (w : World) (h : segm_SendBuf_Next.B0 b max w   R) :
    KW Try.prog 62 53 (segm_SendBuf_Next.RV R) ([(0, [])].map (toItem (Try.f62.body.getD .skip))) [(0, .pointer b), (1, .int .i64 max)] w := by
  exact block_spec Try.func62 Try.mixed (stops_cons (fun σ w h => by
      obtain ⟨b_, e0, h⟩ := dP_elim h
      obtain ⟨n_, e1, h⟩ := dI_elim h
      exact (segm_SendBuf_Next.B1_sound  b_ n_ w h).weaken (Sub.cons (Sub.cons (Sub.nil _) e1) e0)) stops_nil) (Eq.mp (segm_SendBuf_Next.B0_eq b max w   R (fun b_ n_ w => segm_SendBuf_Next.B1 b_ n_ w  R)) h)
theorem segm_SendBuf_Next.sound (b : Option Addr) (max : Int) (w : World) (R : Int → Option Addr → Nat → Nat → World → Prop) (h : segm_SendBuf_Next.B0 b max w R) : segm_SendBuf_Next.Call b max w R := by
  have hc := calls_of_block (args := #[.pointer b, .int .i64 max]) Try.func62 (body := (Try.f62.body.getD .skip)) (by kernel_rfl) (by kernel_rfl) (args_slot _) (segm_SendBuf_Next.B0_sound b max w h)
  exact hc.mono fun e w' he => by
    obtain ⟨v, rfl, hv⟩ := he
    exact segm_SendBuf_Next.RV_elim hv
def seglaw_World_Ack.B0 (w0 : Option Addr) (a : Int) (w : World)   (R : Bool → World → Prop) : Prop :=
  Pn w0 fun a_1 =>
  LdP a_1 w fun x9 =>
  seg_SendBuf_Ack.Call x9 a w fun r11 w1 =>
  Pn w0 fun a_2 =>
  LdP (a_2.add 1) w1 fun x16 =>
  segm_SendBuf_Ack.Call x16 a w1 fun r18 w2 =>
  R (r11 == r18) w2
theorem seglaw_World_Ack.B0_eq (w0 : Option Addr) (a : Int) (w : World)   (R : Bool → World → Prop)  :
    (
  Pn w0 fun a_1 =>
  LdP a_1 w fun x9 =>
  seg_SendBuf_Ack.Call x9 a w fun r11 w1 =>
  Pn w0 fun a_2 =>
  LdP (a_2.add 1) w1 fun x16 =>
  segm_SendBuf_Ack.Call x16 a w1 fun r18 w2 =>
  R (r11 == r18) w2) = kstep Try.prog 20 Try.f63.results.toList (Try.f63.body.getD .skip) (seglaw_World_Ack.RV R) (kvc Try.prog 20 Try.f63.results.toList (Try.f63.body.getD .skip) (seglaw_World_Ack.RV R) [] 2000) [(0, [])] [(0, .pointer w0), (1, .int .i64 a)] w := by kernel_rfl
theorem seglaw_World_Ack.B0_sound {R : Bool → World → Prop}  (w0 : Option Addr) (a : Int) (w : World) (h : seglaw_World_Ack.B0 w0 a w   R) :
    KW Try.prog 63 20 (seglaw_World_Ack.RV R) ([(0, [])].map (toItem (Try.f63.body.getD .skip))) [(0, .pointer w0), (1, .int .i64 a)] w := by
  exact block_spec Try.func63 Try.mixed stops_nil (Eq.mp (seglaw_World_Ack.B0_eq w0 a w   R ) h)
theorem seglaw_World_Ack.sound (w0 : Option Addr) (a : Int) (w : World) (R : Bool → World → Prop) (h : seglaw_World_Ack.B0 w0 a w R) : seglaw_World_Ack.Call w0 a w R := by
  have hc := calls_of_block (args := #[.pointer w0, .int .i64 a]) Try.func63 (body := (Try.f63.body.getD .skip)) (by kernel_rfl) (by kernel_rfl) (args_slot _) (seglaw_World_Ack.B0_sound w0 a w h)
  exact hc.mono fun e w' he => by
    obtain ⟨v, rfl, hv⟩ := he
    exact seglaw_World_Ack.RV_elim hv
def seg_RecvBuf_Reset.B0 (b : Option Addr) (seq : Int) (w : World)   (R : World → Prop) : Prop :=
  api_SeqAdd.Call seq (0 : Int) w fun r6 w1 =>
  Pn b fun a =>
  Sts [.int .u8 (IntKind.u8.wrap r6)] (a.add 16) 0 w1 fun w2 =>
  Pn b fun a_1 =>
  Sts [.int .i64 (0 : Int)] (a_1.add 17) 0 w2 fun w3 =>
  Pn b fun a_2 =>
  Sts [.int .u16 (0 : Int)] (a_2.add 18) 0 w3 fun w4 =>
  R  w4
theorem seg_RecvBuf_Reset.B0_eq (b : Option Addr) (seq : Int) (w : World)   (R : World → Prop)  :
    (
  api_SeqAdd.Call seq (0 : Int) w fun r6 w1 =>
  Pn b fun a =>
  Sts [.int .u8 (IntKind.u8.wrap r6)] (a.add 16) 0 w1 fun w2 =>
  Pn b fun a_1 =>
  Sts [.int .i64 (0 : Int)] (a_1.add 17) 0 w2 fun w3 =>
  Pn b fun a_2 =>
  Sts [.int .u16 (0 : Int)] (a_2.add 18) 0 w3 fun w4 =>
  R  w4) = kstep Try.prog 18 Try.f64.results.toList (Try.f64.body.getD .skip) (seg_RecvBuf_Reset.RV R) (kvc Try.prog 18 Try.f64.results.toList (Try.f64.body.getD .skip) (seg_RecvBuf_Reset.RV R) [] 2000) [(0, [])] [(0, .pointer b), (1, .int .i64 seq)] w := by kernel_rfl
theorem seg_RecvBuf_Reset.B0_sound {R : World → Prop}  (b : Option Addr) (seq : Int) (w : World) (h : seg_RecvBuf_Reset.B0 b seq w   R) :
    KW Try.prog 64 18 (seg_RecvBuf_Reset.RV R) ([(0, [])].map (toItem (Try.f64.body.getD .skip))) [(0, .pointer b), (1, .int .i64 seq)] w := by
  exact block_spec Try.func64 Try.mixed stops_nil (Eq.mp (seg_RecvBuf_Reset.B0_eq b seq w   R ) h)
theorem seg_RecvBuf_Reset.sound (b : Option Addr) (seq : Int) (w : World) (R : World → Prop) (h : seg_RecvBuf_Reset.B0 b seq w R) : seg_RecvBuf_Reset.Call b seq w R := by
  have hc := calls_of_block (args := #[.pointer b, .int .i64 seq]) Try.func64 (body := (Try.f64.body.getD .skip)) (by kernel_rfl) (by kernel_rfl) (args_slot _) (seg_RecvBuf_Reset.B0_sound b seq w h)
  exact hc.mono fun e w' he => by
    obtain ⟨v, rfl, hv⟩ := he
    exact seg_RecvBuf_Reset.RV_elim hv
def segm_RecvBuf_Reset.L1b (b : Option Addr) (d : Int) (w : World)  (N1 : Option Addr → Int → World → Prop) (R : World → Prop) : Prop :=
  Bm (decide (d < (16 : Int))) (
    Pn b fun a =>
    (0 ≤ d ∧ d < ((16 : Nat) : Int)) ∧
    Pn b fun a_1 =>
    Sts [.bool false] (Addr.add (a.add 2) (d.toNat * 1)) 0 w.drew fun w1 =>
    (0 ≤ d ∧ d < ((16 : Nat) : Int)) ∧
    Sts [.int .u8 (0 : Int)] (Addr.add (a_1.add 18) (d.toNat * 1)) 0 w1 fun w2 =>
    N1 b (IntKind.i64.wrap (d + (1 : Int))) w2) (
    R  w)
theorem segm_RecvBuf_Reset.L1b_eq (b : Option Addr) (d : Int) (w : World)  (N1 : Option Addr → Int → World → Prop) (R : World → Prop)  :
    (
  Bm (decide (d < (16 : Int))) (
    Pn b fun a =>
    (0 ≤ d ∧ d < ((16 : Nat) : Int)) ∧
    Pn b fun a_1 =>
    Sts [.bool false] (Addr.add (a.add 2) (d.toNat * 1)) 0 w.drew fun w1 =>
    (0 ≤ d ∧ d < ((16 : Nat) : Int)) ∧
    Sts [.int .u8 (0 : Int)] (Addr.add (a_1.add 18) (d.toNat * 1)) 0 w1 fun w2 =>
    N1 b (IntKind.i64.wrap (d + (1 : Int))) w2) (
    R  w)) = kstep Try.prog 27 Try.f65.results.toList (Try.f65.body.getD .skip) (segm_RecvBuf_Reset.RV R) (kvc Try.prog 27 Try.f65.results.toList (Try.f65.body.getD .skip) (segm_RecvBuf_Reset.RV R) [([(0, [1, 1, 1, 0, 0]), (2, [1, 1, 1, 0, 0]), (1, [0])], fun σ w => dP (slotOf σ 0) fun b_ => dI .i64 (slotOf σ 4) fun d_ => N1 b_ d_ w)] 2000) [(0, [1, 1, 1, 0, 0]), (2, [1, 1, 1, 0, 0]), (1, [0])] [(0, .pointer b), (4, .int .i64 d)] w := by kernel_rfl
theorem segm_RecvBuf_Reset.L1b_sound {R : World → Prop} {N1 : Option Addr → Int → World → Prop} (hN1 : ∀ b d w, N1 b d w → KW Try.prog 65 27 (segm_RecvBuf_Reset.RV R) ([(0, [1, 1, 1, 0, 0]), (2, [1, 1, 1, 0, 0]), (1, [0])].map (toItem (Try.f65.body.getD .skip))) [(0, .pointer b), (4, .int .i64 d)] w) (b : Option Addr) (d : Int) (w : World) (h : segm_RecvBuf_Reset.L1b b d w  N1 R) :
    KW Try.prog 65 27 (segm_RecvBuf_Reset.RV R) ([(0, [1, 1, 1, 0, 0]), (2, [1, 1, 1, 0, 0]), (1, [0])].map (toItem (Try.f65.body.getD .skip))) [(0, .pointer b), (4, .int .i64 d)] w := by
  exact block_spec Try.func65 Try.mixed (stops_cons (fun σ w h => by
      obtain ⟨b_, e0, h⟩ := dP_elim h
      obtain ⟨d_, e1, h⟩ := dI_elim h
      exact (hN1 b_ d_ w h).weaken (Sub.cons (Sub.cons (Sub.nil _) e1) e0)) stops_nil) (Eq.mp (segm_RecvBuf_Reset.L1b_eq b d w  N1 R ) h)
def segm_RecvBuf_Reset.L1 (b : Option Addr) (d : Int) (w : World)  (R : World → Prop) : Prop :=
  ∃ (I : Nat → Option Addr → Int → World → Prop) (m : Nat), I m b d w ∧ ∀ m b d w, I m b d w → segm_RecvBuf_Reset.L1b b d w  (fun b' d' w' => ∃ m', m' < m ∧ I m' b' d' w') R
theorem segm_RecvBuf_Reset.L1_sound {R : World → Prop}  (b : Option Addr) (d : Int) (w : World) (h : segm_RecvBuf_Reset.L1 b d w  R) :
    KW Try.prog 65 27 (segm_RecvBuf_Reset.RV R) ([(0, [1, 1, 1, 0, 0]), (2, [1, 1, 1, 0, 0]), (1, [0])].map (toItem (Try.f65.body.getD .skip))) [(0, .pointer b), (4, .int .i64 d)] w := by
  obtain ⟨I, m, hBase, hr⟩ := h
  refine KW.loop (fun m σ w => ∃ (b : Option Addr) (d : Int), σ = [(0, .pointer b), (4, .int .i64 d)] ∧ I m b d w) ?_ m _ w ⟨b, d, rfl, hBase⟩
  rintro m ih σ w ⟨b, d, rfl, hI⟩
  exact segm_RecvBuf_Reset.L1b_sound  (N1 := fun b' d' w' => ∃ m', m' < m ∧ I m' b' d' w') (fun b' d' w' hx => by obtain ⟨m', hlt, hI'⟩ := hx; exact ih m' hlt _ w' ⟨b', d', rfl, hI'⟩) b d w (hr m b d w hI)
def segm_RecvBuf_Reset.B0 (b : Option Addr) (seq : Int) (w : World)   (R : World → Prop) : Prop :=
  api_SeqAdd.Call seq (0 : Int) w fun r7 w1 =>
  Pn b fun a =>
  Sts [.int .i64 r7] a 0 w1 fun w2 =>
  Pn b fun a_1 =>
  Sts [.slice none 0 0] (a_1.add 1) 0 w2 fun w3 =>
  segm_RecvBuf_Reset.L1 b (0 : Int) w3  R
theorem segm_RecvBuf_Reset.B0_eq (b : Option Addr) (seq : Int) (w : World)   (R : World → Prop) (sL1 : Option Addr → Int → World → Prop) :
    (
  api_SeqAdd.Call seq (0 : Int) w fun r7 w1 =>
  Pn b fun a =>
  Sts [.int .i64 r7] a 0 w1 fun w2 =>
  Pn b fun a_1 =>
  Sts [.slice none 0 0] (a_1.add 1) 0 w2 fun w3 =>
  sL1 b (0 : Int) w3) = kstep Try.prog 27 Try.f65.results.toList (Try.f65.body.getD .skip) (segm_RecvBuf_Reset.RV R) (kvc Try.prog 27 Try.f65.results.toList (Try.f65.body.getD .skip) (segm_RecvBuf_Reset.RV R) [([(0, [1, 1, 1, 0, 0]), (2, [1, 1, 1, 0, 0]), (1, [0])], fun σ w => dP (slotOf σ 0) fun b_ => dI .i64 (slotOf σ 4) fun d_ => sL1 b_ d_ w)] 2000) [(0, [])] [(0, .pointer b), (1, .int .i64 seq)] w := by kernel_rfl
theorem segm_RecvBuf_Reset.B0_sound {R : World → Prop}  (b : Option Addr) (seq : Int) (w : World) (h : segm_RecvBuf_Reset.B0 b seq w   R) :
    KW Try.prog 65 27 (segm_RecvBuf_Reset.RV R) ([(0, [])].map (toItem (Try.f65.body.getD .skip))) [(0, .pointer b), (1, .int .i64 seq)] w := by
  exact block_spec Try.func65 Try.mixed (stops_cons (fun σ w h => by
      obtain ⟨b_, e0, h⟩ := dP_elim h
      obtain ⟨d_, e1, h⟩ := dI_elim h
      exact (segm_RecvBuf_Reset.L1_sound  b_ d_ w h).weaken (Sub.cons (Sub.cons (Sub.nil _) e1) e0)) stops_nil) (Eq.mp (segm_RecvBuf_Reset.B0_eq b seq w   R (fun b_ d_ w => segm_RecvBuf_Reset.L1 b_ d_ w  R)) h)
theorem segm_RecvBuf_Reset.sound (b : Option Addr) (seq : Int) (w : World) (R : World → Prop) (h : segm_RecvBuf_Reset.B0 b seq w R) : segm_RecvBuf_Reset.Call b seq w R := by
  have hc := calls_of_block (args := #[.pointer b, .int .i64 seq]) Try.func65 (body := (Try.f65.body.getD .skip)) (by kernel_rfl) (by kernel_rfl) (args_slot _) (segm_RecvBuf_Reset.B0_sound b seq w h)
  exact hc.mono fun e w' he => by
    obtain ⟨v, rfl, hv⟩ := he
    exact segm_RecvBuf_Reset.RV_elim hv
def seglaw_World_Insert.B0 (w0 : Option Addr) (seq : Int) (p_b : Option Addr) (p_l p_c : Nat) (w : World)   (R : Bool → World → Prop) : Prop :=
  api_CopyBytes.Call p_b p_l p_c w fun r12_b r12_l r12_c w1 =>
  api_CopyBytes.Call p_b p_l p_c w1 fun r14_b r14_l r14_c w2 =>
  Pn w0 fun a =>
  LdP (a.add 2) w2 fun x18 =>
  seg_RecvBuf_Insert.Call x18 seq r12_b r12_l r12_c w2 fun r21 w3 =>
  Pn w0 fun a_1 =>
  LdP (a_1.add 3) w3 fun x25 =>
  segm_RecvBuf_Insert.Call x25 seq r14_b r14_l r14_c w3 fun r28 w4 =>
  seglaw_Scribble.Call r12_b r12_l r12_c w4 fun w5 =>
  R (r21 == r28) w5
theorem seglaw_World_Insert.B0_eq (w0 : Option Addr) (seq : Int) (p_b : Option Addr) (p_l p_c : Nat) (w : World)   (R : Bool → World → Prop)  :
    (
  api_CopyBytes.Call p_b p_l p_c w fun r12_b r12_l r12_c w1 =>
  api_CopyBytes.Call p_b p_l p_c w1 fun r14_b r14_l r14_c w2 =>
  Pn w0 fun a =>
  LdP (a.add 2) w2 fun x18 =>
  seg_RecvBuf_Insert.Call x18 seq r12_b r12_l r12_c w2 fun r21 w3 =>
  Pn w0 fun a_1 =>
  LdP (a_1.add 3) w3 fun x25 =>
  segm_RecvBuf_Insert.Call x25 seq r14_b r14_l r14_c w3 fun r28 w4 =>
  seglaw_Scribble.Call r12_b r12_l r12_c w4 fun w5 =>
  R (r21 == r28) w5) = kstep Try.prog 34 Try.f66.results.toList (Try.f66.body.getD .skip) (seglaw_World_Insert.RV R) (kvc Try.prog 34 Try.f66.results.toList (Try.f66.body.getD .skip) (seglaw_World_Insert.RV R) [] 2000) [(0, [])] [(0, .pointer w0), (1, .int .i64 seq), (2, .slice p_b p_l p_c)] w := by kernel_rfl
theorem seglaw_World_Insert.B0_sound {R : Bool → World → Prop}  (w0 : Option Addr) (seq : Int) (p_b : Option Addr) (p_l p_c : Nat) (w : World) (h : seglaw_World_Insert.B0 w0 seq p_b p_l p_c w   R) :
    KW Try.prog 66 34 (seglaw_World_Insert.RV R) ([(0, [])].map (toItem (Try.f66.body.getD .skip))) [(0, .pointer w0), (1, .int .i64 seq), (2, .slice p_b p_l p_c)] w := by
  exact block_spec Try.func66 Try.mixed stops_nil (Eq.mp (seglaw_World_Insert.B0_eq w0 seq p_b p_l p_c w   R ) h)
theorem seglaw_World_Insert.sound (w0 : Option Addr) (seq : Int) (p_b : Option Addr) (p_l p_c : Nat) (w : World) (R : Bool → World → Prop) (h : seglaw_World_Insert.B0 w0 seq p_b p_l p_c w R) : seglaw_World_Insert.Call w0 seq p_b p_l p_c w R := by
  have hc := calls_of_block (args := #[.pointer w0, .int .i64 seq, .slice p_b p_l p_c]) Try.func66 (body := (Try.f66.body.getD .skip)) (by kernel_rfl) (by kernel_rfl) (args_slot _) (seglaw_World_Insert.B0_sound w0 seq p_b p_l p_c w h)
  exact hc.mono fun e w' he => by
    obtain ⟨v, rfl, hv⟩ := he
    exact seglaw_World_Insert.RV_elim hv
def seg_RecvBuf_Read.B0 (b : Option Addr) (max : Int) (w : World)   (R : Option Addr → Nat → Nat → World → Prop) : Prop :=
  Pn b fun a =>
  LdI .i64 (a.add 17) w fun x11 =>
  seg_least.Call max x11 w fun r12 w1 =>
  seg_RecvBuf_first.Call b r12 w1 fun r15_b r15_l r15_c w2 =>
  Pn b fun a_1 =>
  LdI .i64 (a_1.add 17) w2 fun x19 =>
  Pn b fun a_2 =>
  Sts [.int .i64 (IntKind.i64.wrap (x19 - r12))] (a_2.add 17) 0 w2 fun w3 =>
  R r15_b r15_l r15_c w3
theorem seg_RecvBuf_Read.B0_eq (b : Option Addr) (max : Int) (w : World)   (R : Option Addr → Nat → Nat → World → Prop)  :
    (
  Pn b fun a =>
  LdI .i64 (a.add 17) w fun x11 =>
  seg_least.Call max x11 w fun r12 w1 =>
  seg_RecvBuf_first.Call b r12 w1 fun r15_b r15_l r15_c w2 =>
  Pn b fun a_1 =>
  LdI .i64 (a_1.add 17) w2 fun x19 =>
  Pn b fun a_2 =>
  Sts [.int .i64 (IntKind.i64.wrap (x19 - r12))] (a_2.add 17) 0 w2 fun w3 =>
  R r15_b r15_l r15_c w3) = kstep Try.prog 25 Try.f67.results.toList (Try.f67.body.getD .skip) (seg_RecvBuf_Read.RV R) (kvc Try.prog 25 Try.f67.results.toList (Try.f67.body.getD .skip) (seg_RecvBuf_Read.RV R) [] 2000) [(0, [])] [(0, .pointer b), (1, .int .i64 max)] w := by kernel_rfl
theorem seg_RecvBuf_Read.B0_sound {R : Option Addr → Nat → Nat → World → Prop}  (b : Option Addr) (max : Int) (w : World) (h : seg_RecvBuf_Read.B0 b max w   R) :
    KW Try.prog 67 25 (seg_RecvBuf_Read.RV R) ([(0, [])].map (toItem (Try.f67.body.getD .skip))) [(0, .pointer b), (1, .int .i64 max)] w := by
  exact block_spec Try.func67 Try.mixed stops_nil (Eq.mp (seg_RecvBuf_Read.B0_eq b max w   R ) h)
theorem seg_RecvBuf_Read.sound (b : Option Addr) (max : Int) (w : World) (R : Option Addr → Nat → Nat → World → Prop) (h : seg_RecvBuf_Read.B0 b max w R) : seg_RecvBuf_Read.Call b max w R := by
  have hc := calls_of_block (args := #[.pointer b, .int .i64 max]) Try.func67 (body := (Try.f67.body.getD .skip)) (by kernel_rfl) (by kernel_rfl) (args_slot _) (seg_RecvBuf_Read.B0_sound b max w h)
  exact hc.mono fun e w' he => by
    obtain ⟨v, rfl, hv⟩ := he
    exact seg_RecvBuf_Read.RV_elim hv
def segm_RecvBuf_Read.B2 (b : Option Addr) (n : Int) (w : World)   (R : Option Addr → Nat → Nat → World → Prop) : Prop :=
  Pn b fun a =>
  LdL (a.add 1) w fun x21_b x21_l x21_c =>
  (0 ≤ n ∧ n ≤ ((x21_c : Nat) : Int)) ∧
  api_CopyBytes.Call (slBase x21_b ((0 : Nat) : Int) ((x21_c : Nat) : Int) 1) (n.toNat - ((0 : Nat) : Int).toNat) (((x21_c : Nat) : Int).toNat - ((0 : Nat) : Int).toNat) w fun r24_b r24_l r24_c w1 =>
  Pn b fun a_1 =>
  LdL (a_1.add 1) w1 fun x29_b x29_l x29_c =>
  (0 ≤ n ∧ n ≤ ((x29_l : Nat) : Int)) ∧
  api_CopyBytes.Call (slBase x29_b n ((x29_c : Nat) : Int) 1) (((x29_l : Nat) : Int).toNat - n.toNat) (((x29_c : Nat) : Int).toNat - n.toNat) w1 fun r32_b r32_l r32_c w2 =>
  Pn b fun a_2 =>
  Sts [.slice r32_b r32_l r32_c] (a_2.add 1) 0 w2 fun w3 =>
  R r24_b r24_l r24_c w3
theorem segm_RecvBuf_Read.B2_eq (b : Option Addr) (n : Int) (w : World)   (R : Option Addr → Nat → Nat → World → Prop)  :
    (
  Pn b fun a =>
  LdL (a.add 1) w fun x21_b x21_l x21_c =>
  (0 ≤ n ∧ n ≤ ((x21_c : Nat) : Int)) ∧
  api_CopyBytes.Call (slBase x21_b ((0 : Nat) : Int) ((x21_c : Nat) : Int) 1) (n.toNat - ((0 : Nat) : Int).toNat) (((x21_c : Nat) : Int).toNat - ((0 : Nat) : Int).toNat) w fun r24_b r24_l r24_c w1 =>
  Pn b fun a_1 =>
  LdL (a_1.add 1) w1 fun x29_b x29_l x29_c =>
  (0 ≤ n ∧ n ≤ ((x29_l : Nat) : Int)) ∧
  api_CopyBytes.Call (slBase x29_b n ((x29_c : Nat) : Int) 1) (((x29_l : Nat) : Int).toNat - n.toNat) (((x29_c : Nat) : Int).toNat - n.toNat) w1 fun r32_b r32_l r32_c w2 =>
  Pn b fun a_2 =>
  Sts [.slice r32_b r32_l r32_c] (a_2.add 1) 0 w2 fun w3 =>
  R r24_b r24_l r24_c w3) = kstep Try.prog 36 Try.f68.results.toList (Try.f68.body.getD .skip) (segm_RecvBuf_Read.RV R) (kvc Try.prog 36 Try.f68.results.toList (Try.f68.body.getD .skip) (segm_RecvBuf_Read.RV R) [] 2000) [(0, [1, 1, 1, 1])] [(0, .pointer b), (5, .int .i64 n)] w := by kernel_rfl
theorem segm_RecvBuf_Read.B2_sound {R : Option Addr → Nat → Nat → World → Prop}  (b : Option Addr) (n : Int) (w : World) (h : segm_RecvBuf_Read.B2 b n w   R) :
    KW Try.prog 68 36 (segm_RecvBuf_Read.RV R) ([(0, [1, 1, 1, 1])].map (toItem (Try.f68.body.getD .skip))) [(0, .pointer b), (5, .int .i64 n)] w := by
  exact block_spec Try.func68 Try.mixed stops_nil (Eq.mp (segm_RecvBuf_Read.B2_eq b n w   R ) h)
def segm_RecvBuf_Read.B1 (b : Option Addr) (n : Int) (w : World)   (R : Option Addr → Nat → Nat → World → Prop) : Prop :=
  Bm (decide (n < (0 : Int))) (
    segm_RecvBuf_Read.B2 b (0 : Int) w  R) (
    segm_RecvBuf_Read.B2 b n w  R)
theorem segm_RecvBuf_Read.B1_eq (b : Option Addr) (n : Int) (w : World)   (R : Option Addr → Nat → Nat → World → Prop) (sB2 : Option Addr → Int → World → Prop) :
    (
  Bm (decide (n < (0 : Int))) (
    sB2 b (0 : Int) w) (
    sB2 b n w)) = kstep Try.prog 36 Try.f68.results.toList (Try.f68.body.getD .skip) (segm_RecvBuf_Read.RV R) (kvc Try.prog 36 Try.f68.results.toList (Try.f68.body.getD .skip) (segm_RecvBuf_Read.RV R) [([(0, [1, 1, 1, 1])], fun σ w => dP (slotOf σ 0) fun b_ => dI .i64 (slotOf σ 5) fun n_ => sB2 b_ n_ w)] 2000) [(0, [1, 1, 1])] [(0, .pointer b), (5, .int .i64 n)] w := by kernel_rfl
theorem segm_RecvBuf_Read.B1_sound {R : Option Addr → Nat → Nat → World → Prop}  (b : Option Addr) (n : Int) (w : World) (h : segm_RecvBuf_Read.B1 b n w   R) :
    KW Try.prog 68 36 (segm_RecvBuf_Read.RV R) ([(0, [1, 1, 1])].map (toItem (Try.f68.body.getD .skip))) [(0, .pointer b), (5, .int .i64 n)] w := by
  exact block_spec Try.func68 Try.mixed (stops_cons (fun σ w h => by
      obtain ⟨b_, e0, h⟩ := dP_elim h
      obtain ⟨n_, e1, h⟩ := dI_elim h
      exact (segm_RecvBuf_Read.B2_sound  b_ n_ w h).weaken (Sub.cons (Sub.cons (Sub.nil _) e1) e0)) stops_nil) (Eq.mp (segm_RecvBuf_Read.B1_eq b n w   R (fun b_ n_ w => segm_RecvBuf_Read.B2 b_ n_ w  R)) h)
def segm_RecvBuf_Read.B0 (b : Option Addr) (max : Int) (w : World)   (R : Option Addr → Nat → Nat → World → Prop) : Prop :=
  Pn b fun a =>
  LdL (a.add 1) w fun x10_b x10_l x10_c =>
  Bm (decide (((x10_l : Nat) : Int) > max)) (
    segm_RecvBuf_Read.B1 b max w  R) (
    segm_RecvBuf_Read.B1 b ((x10_l : Nat) : Int) w  R)
theorem segm_RecvBuf_Read.B0_eq (b : Option Addr) (max : Int) (w : World)   (R : Option Addr → Nat → Nat → World → Prop) (sB1 : Option Addr → Int → World → Prop) :
    (
  Pn b fun a =>
  LdL (a.add 1) w fun x10_b x10_l x10_c =>
  Bm (decide (((x10_l : Nat) : Int) > max)) (
    sB1 b max w) (
    sB1 b ((x10_l : Nat) : Int) w)) = kstep Try.prog 36 Try.f68.results.toList (Try.f68.body.getD .skip) (segm_RecvBuf_Read.RV R) (kvc Try.prog 36 Try.f68.results.toList (Try.f68.body.getD .skip) (segm_RecvBuf_Read.RV R) [([(0, [1, 1, 1])], fun σ w => dP (slotOf σ 0) fun b_ => dI .i64 (slotOf σ 5) fun n_ => sB1 b_ n_ w)] 2000) [(0, [])] [(0, .pointer b), (1, .int .i64 max)] w := by kernel_rfl
theorem segm_RecvBuf_Read.B0_sound {R : Option Addr → Nat → Nat → World → Prop}  (b : Option Addr) (max : Int) (w : World) (h : segm_RecvBuf_Read.B0 b max w   R) :
    KW Try.prog 68 36 (segm_RecvBuf_Read.RV R) ([(0, [])].map (toItem (Try.f68.body.getD .skip))) [(0, .pointer b), (1, .int .i64 max)] w := by
  exact block_spec Try.func68 Try.mixed (stops_cons (fun σ w h => by
      obtain ⟨b_, e0, h⟩ := dP_elim h
      obtain ⟨n_, e1, h⟩ := dI_elim h
      exact (segm_RecvBuf_Read.B1_sound  b_ n_ w h).weaken (Sub.cons (Sub.cons (Sub.nil _) e1) e0)) stops_nil) (Eq.mp (segm_RecvBuf_Read.B0_eq b max w   R (fun b_ n_ w => segm_RecvBuf_Read.B1 b_ n_ w  R)) h)
theorem segm_RecvBuf_Read.sound (b : Option Addr) (max : Int) (w : World) (R : Option Addr → Nat → Nat → World → Prop) (h : segm_RecvBuf_Read.B0 b max w R) : segm_RecvBuf_Read.Call b max w R := by
  have hc := calls_of_block (args := #[.pointer b, .int .i64 max]) Try.func68 (body := (Try.f68.body.getD .skip)) (by kernel_rfl) (by kernel_rfl) (args_slot _) (segm_RecvBuf_Read.B0_sound b max w h)
  exact hc.mono fun e w' he => by
    obtain ⟨v, rfl, hv⟩ := he
    exact segm_RecvBuf_Read.RV_elim hv
def api_SeqAdd.B0 (a n : Int) (w : World)   (R : Int → World → Prop) : Prop :=
  (256 : Int) ≠ 0 ∧
  (256 : Int) ≠ 0 ∧
  (256 : Int) ≠ 0 ∧
  (256 : Int) ≠ 0 ∧
  R ((IntKind.i64.wrap (((IntKind.i64.wrap ((a.tmod (256 : Int)) + (n.tmod (256 : Int)))).tmod (256 : Int)) + (256 : Int))).tmod (256 : Int)) w
theorem api_SeqAdd.B0_eq (a n : Int) (w : World)   (R : Int → World → Prop)  :
    (
  (256 : Int) ≠ 0 ∧
  (256 : Int) ≠ 0 ∧
  (256 : Int) ≠ 0 ∧
  (256 : Int) ≠ 0 ∧
  R ((IntKind.i64.wrap (((IntKind.i64.wrap ((a.tmod (256 : Int)) + (n.tmod (256 : Int)))).tmod (256 : Int)) + (256 : Int))).tmod (256 : Int)) w) = kstep Try.prog 13 Try.f69.results.toList (Try.f69.body.getD .skip) (api_SeqAdd.RV R) (kvc Try.prog 13 Try.f69.results.toList (Try.f69.body.getD .skip) (api_SeqAdd.RV R) [] 2000) [(0, [])] [(0, .int .i64 a), (1, .int .i64 n)] w := by kernel_rfl
theorem api_SeqAdd.B0_sound {R : Int → World → Prop}  (a n : Int) (w : World) (h : api_SeqAdd.B0 a n w   R) :
    KW Try.prog 69 13 (api_SeqAdd.RV R) ([(0, [])].map (toItem (Try.f69.body.getD .skip))) [(0, .int .i64 a), (1, .int .i64 n)] w := by
  exact block_spec Try.func69 Try.mixed stops_nil (Eq.mp (api_SeqAdd.B0_eq a n w   R ) h)
theorem api_SeqAdd.sound (a n : Int) (w : World) (R : Int → World → Prop) (h : api_SeqAdd.B0 a n w R) : api_SeqAdd.Call a n w R := by
  have hc := calls_of_block (args := #[.int .i64 a, .int .i64 n]) Try.func69 (body := (Try.f69.body.getD .skip)) (by kernel_rfl) (by kernel_rfl) (args_slot _) (api_SeqAdd.B0_sound a n w h)
  exact hc.mono fun e w' he => by
    obtain ⟨v, rfl, hv⟩ := he
    exact api_SeqAdd.RV_elim hv
def seg_SendBuf_span.B1 (b : Option Addr) (n : Int) (out_b : Option Addr) (out_l out_c : Nat) (at0 first : Int) (w : World)   (R : Option Addr → Nat → Nat → World → Prop) : Prop :=
  Pn b fun a =>
  (0 ≤ (IntKind.i64.wrap (at0 + first)) ∧ (IntKind.i64.wrap (at0 + first)) ≤ ((16 : Nat) : Int)) ∧
  (0 ≤ at0 ∧ at0 ≤ (IntKind.i64.wrap (at0 + first))) ∧
  Copy 1 out_b out_l (some (slBaseA a at0 ((16 : Nat) : Int) 1)) ((IntKind.i64.wrap (at0 + first)).toNat - at0.toNat) w fun n34 w1 =>
  (0 ≤ first ∧ first ≤ ((out_l : Nat) : Int)) ∧
  Pn b fun a_1 =>
  (0 ≤ (IntKind.i64.wrap (n - first)) ∧ (IntKind.i64.wrap (n - first)) ≤ ((16 : Nat) : Int)) ∧
  Copy 1 (slBase out_b first ((out_c : Nat) : Int) 1) (((out_l : Nat) : Int).toNat - first.toNat) (some (slBaseA a_1 ((0 : Nat) : Int) ((16 : Nat) : Int) 1)) ((IntKind.i64.wrap (n - first)).toNat - ((0 : Nat) : Int).toNat) w1.drew fun n45 w2 =>
  R out_b out_l out_c w2
theorem seg_SendBuf_span.B1_eq (b : Option Addr) (n : Int) (out_b : Option Addr) (out_l out_c : Nat) (at0 first : Int) (w : World)   (R : Option Addr → Nat → Nat → World → Prop)  :
    (
  Pn b fun a =>
  (0 ≤ (IntKind.i64.wrap (at0 + first)) ∧ (IntKind.i64.wrap (at0 + first)) ≤ ((16 : Nat) : Int)) ∧
  (0 ≤ at0 ∧ at0 ≤ (IntKind.i64.wrap (at0 + first))) ∧
  Copy 1 out_b out_l (some (slBaseA a at0 ((16 : Nat) : Int) 1)) ((IntKind.i64.wrap (at0 + first)).toNat - at0.toNat) w fun n34 w1 =>
  (0 ≤ first ∧ first ≤ ((out_l : Nat) : Int)) ∧
  Pn b fun a_1 =>
  (0 ≤ (IntKind.i64.wrap (n - first)) ∧ (IntKind.i64.wrap (n - first)) ≤ ((16 : Nat) : Int)) ∧
  Copy 1 (slBase out_b first ((out_c : Nat) : Int) 1) (((out_l : Nat) : Int).toNat - first.toNat) (some (slBaseA a_1 ((0 : Nat) : Int) ((16 : Nat) : Int) 1)) ((IntKind.i64.wrap (n - first)).toNat - ((0 : Nat) : Int).toNat) w1.drew fun n45 w2 =>
  R out_b out_l out_c w2) = kstep Try.prog 47 Try.f70.results.toList (Try.f70.body.getD .skip) (seg_SendBuf_span.RV R) (kvc Try.prog 47 Try.f70.results.toList (Try.f70.body.getD .skip) (seg_SendBuf_span.RV R) [] 2000) [(0, [1, 1, 1, 1, 1])] [(0, .pointer b), (2, .int .i64 n), (7, .slice out_b out_l out_c), (8, .int .i64 at0), (9, .int .i64 first)] w := by kernel_rfl
theorem seg_SendBuf_span.B1_sound {R : Option Addr → Nat → Nat → World → Prop}  (b : Option Addr) (n : Int) (out_b : Option Addr) (out_l out_c : Nat) (at0 first : Int) (w : World) (h : seg_SendBuf_span.B1 b n out_b out_l out_c at0 first w   R) :
    KW Try.prog 70 47 (seg_SendBuf_span.RV R) ([(0, [1, 1, 1, 1, 1])].map (toItem (Try.f70.body.getD .skip))) [(0, .pointer b), (2, .int .i64 n), (7, .slice out_b out_l out_c), (8, .int .i64 at0), (9, .int .i64 first)] w := by
  exact block_spec Try.func70 Try.mixed stops_nil (Eq.mp (seg_SendBuf_span.B1_eq b n out_b out_l out_c at0 first w   R ) h)
def seg_SendBuf_span.B0 (b : Option Addr) (off n : Int) (w : World)   (R : Option Addr → Nat → Nat → World → Prop) : Prop :=
  Make 5 (.int .u8 (0 : Int)) 1 1 n n w fun b11 w1 =>
  Pn b fun a =>
  LdI .i64 (a.add 16) w1 fun x15 =>
  (16 : Int) ≠ 0 ∧
  Bm (decide ((IntKind.i64.wrap ((16 : Int) - ((IntKind.i64.wrap (x15 + off)).tmod (16 : Int)))) > n)) (
    seg_SendBuf_span.B1 b n (some ⟨b11, 0, none⟩) n.toNat n.toNat ((IntKind.i64.wrap (x15 + off)).tmod (16 : Int)) n w1  R) (
    seg_SendBuf_span.B1 b n (some ⟨b11, 0, none⟩) n.toNat n.toNat ((IntKind.i64.wrap (x15 + off)).tmod (16 : Int)) (IntKind.i64.wrap ((16 : Int) - ((IntKind.i64.wrap (x15 + off)).tmod (16 : Int)))) w1  R)
theorem seg_SendBuf_span.B0_eq (b : Option Addr) (off n : Int) (w : World)   (R : Option Addr → Nat → Nat → World → Prop) (sB1 : Option Addr → Int → Option Addr → Nat → Nat → Int → Int → World → Prop) :
    (
  Make 5 (.int .u8 (0 : Int)) 1 1 n n w fun b11 w1 =>
  Pn b fun a =>
  LdI .i64 (a.add 16) w1 fun x15 =>
  (16 : Int) ≠ 0 ∧
  Bm (decide ((IntKind.i64.wrap ((16 : Int) - ((IntKind.i64.wrap (x15 + off)).tmod (16 : Int)))) > n)) (
    sB1 b n (some ⟨b11, 0, none⟩) n.toNat n.toNat ((IntKind.i64.wrap (x15 + off)).tmod (16 : Int)) n w1) (
    sB1 b n (some ⟨b11, 0, none⟩) n.toNat n.toNat ((IntKind.i64.wrap (x15 + off)).tmod (16 : Int)) (IntKind.i64.wrap ((16 : Int) - ((IntKind.i64.wrap (x15 + off)).tmod (16 : Int)))) w1)) = kstep Try.prog 47 Try.f70.results.toList (Try.f70.body.getD .skip) (seg_SendBuf_span.RV R) (kvc Try.prog 47 Try.f70.results.toList (Try.f70.body.getD .skip) (seg_SendBuf_span.RV R) [([(0, [1, 1, 1, 1, 1])], fun σ w => dP (slotOf σ 0) fun b_ => dI .i64 (slotOf σ 2) fun n_ => dL (slotOf σ 7) fun out_b_ out_l_ out_c_ => dI .i64 (slotOf σ 8) fun at0_ => dI .i64 (slotOf σ 9) fun first_ => sB1 b_ n_ out_b_ out_l_ out_c_ at0_ first_ w)] 2000) [(0, [])] [(0, .pointer b), (1, .int .i64 off), (2, .int .i64 n)] w := by kernel_rfl
theorem seg_SendBuf_span.B0_sound {R : Option Addr → Nat → Nat → World → Prop}  (b : Option Addr) (off n : Int) (w : World) (h : seg_SendBuf_span.B0 b off n w   R) :
    KW Try.prog 70 47 (seg_SendBuf_span.RV R) ([(0, [])].map (toItem (Try.f70.body.getD .skip))) [(0, .pointer b), (1, .int .i64 off), (2, .int .i64 n)] w := by
  exact block_spec Try.func70 Try.mixed (stops_cons (fun σ w h => by
      obtain ⟨b_, e0, h⟩ := dP_elim h
      obtain ⟨n_, e1, h⟩ := dI_elim h
      obtain ⟨out_b_, out_l_, out_c_, e2, h⟩ := dL_elim h
      obtain ⟨at0_, e3, h⟩ := dI_elim h
      obtain ⟨first_, e4, h⟩ := dI_elim h
      exact (seg_SendBuf_span.B1_sound  b_ n_ out_b_ out_l_ out_c_ at0_ first_ w h).weaken (Sub.cons (Sub.cons (Sub.cons (Sub.cons (Sub.cons (Sub.nil _) e4) e3) e2) e1) e0)) stops_nil) (Eq.mp (seg_SendBuf_span.B0_eq b off n w   R (fun b_ n_ out_b_ out_l_ out_c_ at0_ first_ w => seg_SendBuf_span.B1 b_ n_ out_b_ out_l_ out_c_ at0_ first_ w  R)) h)
theorem seg_SendBuf_span.sound (b : Option Addr) (off n : Int) (w : World) (R : Option Addr → Nat → Nat → World → Prop) (h : seg_SendBuf_span.B0 b off n w R) : seg_SendBuf_span.Call b off n w R := by
  have hc := calls_of_block (args := #[.pointer b, .int .i64 off, .int .i64 n]) Try.func70 (body := (Try.f70.body.getD .skip)) (by kernel_rfl) (by kernel_rfl) (args_slot _) (seg_SendBuf_span.B0_sound b off n w h)
  exact hc.mono fun e w' he => by
    obtain ⟨v, rfl, hv⟩ := he
    exact seg_SendBuf_span.RV_elim hv
end Go.Proofs.Qxb6500426a
