import Derived.Test.Qxb6500430aGreatSig
set_option maxRecDepth 100000
set_option linter.unusedVariables false
open Go.Vc
namespace Go.Proofs.Qxb6500430aGreat
def nodelaw_RefinesQuietUpTo.B0 (script_b : Option Addr) (script_l script_c : Nat) (w : World)   (R : Int → World → Prop) : Prop :=
  nodelaw_walk.Call script_b script_l script_c false true w fun r7_0 r7_1 w1 =>
  R r7_0 w1
theorem nodelaw_RefinesQuietUpTo.B0_eq (script_b : Option Addr) (script_l script_c : Nat) (w : World)   (R : Int → World → Prop)  :
    (
  nodelaw_walk.Call script_b script_l script_c false true w fun r7_0 r7_1 w1 =>
  R r7_0 w1) = kstep Tryz.prog 11 Tryz.f8.results.toList (Tryz.f8.body.getD .skip) (nodelaw_RefinesQuietUpTo.RV R) (kvc Tryz.prog 11 Tryz.f8.results.toList (Tryz.f8.body.getD .skip) (nodelaw_RefinesQuietUpTo.RV R) [] 2000) [(0, [])] [(0, .slice script_b script_l script_c)] w := by kernel_rfl
theorem nodelaw_RefinesQuietUpTo.B0_sound {R : Int → World → Prop}  (script_b : Option Addr) (script_l script_c : Nat) (w : World) (h : nodelaw_RefinesQuietUpTo.B0 script_b script_l script_c w   R) :
    KW Tryz.prog 8 11 (nodelaw_RefinesQuietUpTo.RV R) ([(0, [])].map (toItem (Tryz.f8.body.getD .skip))) [(0, .slice script_b script_l script_c)] w := by
  exact block_spec Tryz.func8 Tryz.mixed stops_nil (Eq.mp (nodelaw_RefinesQuietUpTo.B0_eq script_b script_l script_c w   R ) h)
theorem nodelaw_RefinesQuietUpTo.sound (script_b : Option Addr) (script_l script_c : Nat) (w : World) (R : Int → World → Prop) (h : nodelaw_RefinesQuietUpTo.B0 script_b script_l script_c w R) : nodelaw_RefinesQuietUpTo.Call script_b script_l script_c w R := by
  have hc := calls_of_block (args := #[.slice script_b script_l script_c]) Tryz.func8 (body := (Tryz.f8.body.getD .skip)) (by kernel_rfl) (by kernel_rfl) (args_slot _) (nodelaw_RefinesQuietUpTo.B0_sound script_b script_l script_c w h)
  exact hc.mono fun e w' he => by
    obtain ⟨v, rfl, hv⟩ := he
    exact nodelaw_RefinesQuietUpTo.RV_elim hv
def nodelaw_Ground.B0 (id0 : Int) (w : World)   (R : Option Addr → Option Addr → Int → World → Prop) : Prop :=
  New (.cells #[.pointer none, .pointer none, .int .i64 (0 : Int)] 30) w fun b2 w1 =>
  diskm_New.Call  w1 fun r4 w2 =>
  nodelaw_raise.Call r4 id0 w2 fun r7_0 r7_1 r7_2 w3 =>
  Sts [.pointer r7_0, .pointer r7_1, .int .i64 r7_2] ⟨b2, 0, none⟩ 0 w3 fun w4 =>
  LdP ⟨b2, 0, none⟩ w4 fun r_0 =>
  LdP ⟨b2, 1, none⟩ w4 fun r_1 =>
  LdI .i64 ⟨b2, 2, none⟩ w4 fun r_2 =>
  R r_0 r_1 r_2 w4
theorem nodelaw_Ground.B0_eq (id0 : Int) (w : World)   (R : Option Addr → Option Addr → Int → World → Prop)  :
    (
  New (.cells #[.pointer none, .pointer none, .int .i64 (0 : Int)] 30) w fun b2 w1 =>
  diskm_New.Call  w1 fun r4 w2 =>
  nodelaw_raise.Call r4 id0 w2 fun r7_0 r7_1 r7_2 w3 =>
  Sts [.pointer r7_0, .pointer r7_1, .int .i64 r7_2] ⟨b2, 0, none⟩ 0 w3 fun w4 =>
  LdP ⟨b2, 0, none⟩ w4 fun r_0 =>
  LdP ⟨b2, 1, none⟩ w4 fun r_1 =>
  LdI .i64 ⟨b2, 2, none⟩ w4 fun r_2 =>
  R r_0 r_1 r_2 w4) = kstep Tryz.prog 8 Tryz.f9.results.toList (Tryz.f9.body.getD .skip) (nodelaw_Ground.RV R) (kvc Tryz.prog 8 Tryz.f9.results.toList (Tryz.f9.body.getD .skip) (nodelaw_Ground.RV R) [] 2000) [(0, [])] [(0, .int .i64 id0)] w := by kernel_rfl
theorem nodelaw_Ground.B0_sound {R : Option Addr → Option Addr → Int → World → Prop}  (id0 : Int) (w : World) (h : nodelaw_Ground.B0 id0 w   R) :
    KW Tryz.prog 9 8 (nodelaw_Ground.RV R) ([(0, [])].map (toItem (Tryz.f9.body.getD .skip))) [(0, .int .i64 id0)] w := by
  exact block_spec Tryz.func9 Tryz.mixed stops_nil (Eq.mp (nodelaw_Ground.B0_eq id0 w   R ) h)
theorem nodelaw_Ground.sound (id0 : Int) (w : World) (R : Option Addr → Option Addr → Int → World → Prop) (h : nodelaw_Ground.B0 id0 w R) : nodelaw_Ground.Call id0 w R := by
  have hc := calls_of_block (args := #[.int .i64 id0]) Tryz.func9 (body := (Tryz.f9.body.getD .skip)) (by kernel_rfl) (by kernel_rfl) (args_slot _) (nodelaw_Ground.B0_sound id0 w h)
  exact hc.mono fun e w' he => by
    obtain ⟨v, rfl, hv⟩ := he
    exact nodelaw_Ground.RV_elim hv
def kv_New.B0  (w : World)   (R : Option Addr → World → Prop) : Prop :=
  New (.cells #[.int .i64 (0 : Int), .int .i64 (0 : Int), .int .u8 (0 : Int), .int .u8 (0 : Int), .int .i64 (0 : Int), .int .u8 (0 : Int), .int .u8 (0 : Int), .int .u8 (0 : Int), .int .i64 (0 : Int), .int .i64 (0 : Int), .int .u8 (0 : Int), .int .u8 (0 : Int), .int .i64 (0 : Int), .int .u8 (0 : Int), .int .u8 (0 : Int), .int .u8 (0 : Int), .int .i64 (0 : Int), .int .i64 (0 : Int), .int .u8 (0 : Int), .int .u8 (0 : Int), .int .i64 (0 : Int), .int .u8 (0 : Int), .int .u8 (0 : Int), .int .u8 (0 : Int), .int .i64 (0 : Int), .int .i64 (0 : Int), .int .u8 (0 : Int), .int .u8 (0 : Int), .int .i64 (0 : Int), .int .u8 (0 : Int), .int .u8 (0 : Int), .int .u8 (0 : Int), .int .i64 (0 : Int), .int .i64 (0 : Int), .int .u8 (0 : Int), .int .u8 (0 : Int), .int .i64 (0 : Int), .int .u8 (0 : Int), .int .u8 (0 : Int), .int .u8 (0 : Int), .int .i64 (0 : Int), .int .i64 (0 : Int), .int .u8 (0 : Int), .int .u8 (0 : Int), .int .i64 (0 : Int), .int .u8 (0 : Int), .int .u8 (0 : Int), .int .u8 (0 : Int), .int .i64 (0 : Int), .int .i64 (0 : Int), .int .u8 (0 : Int), .int .u8 (0 : Int), .int .i64 (0 : Int), .int .u8 (0 : Int), .int .u8 (0 : Int), .int .u8 (0 : Int), .int .i64 (0 : Int), .int .i64 (0 : Int), .int .u8 (0 : Int), .int .u8 (0 : Int), .int .i64 (0 : Int), .int .u8 (0 : Int), .int .u8 (0 : Int), .int .u8 (0 : Int), .int .i64 (0 : Int), .int .i64 (0 : Int), .int .i64 (0 : Int), .int .i64 (0 : Int), .int .i64 (0 : Int), .int .u8 (0 : Int), .int .u8 (0 : Int), .int .u8 (0 : Int), .int .i64 (0 : Int), .int .i64 (0 : Int), .int .i64 (0 : Int), .int .u8 (0 : Int), .int .u8 (0 : Int), .int .u8 (0 : Int), .int .i64 (0 : Int), .int .i64 (0 : Int), .int .i64 (0 : Int), .int .u8 (0 : Int), .int .u8 (0 : Int), .int .u8 (0 : Int)] 74) w fun b2 w1 =>
  R (some ⟨b2, 0, none⟩) w1
theorem kv_New.B0_eq  (w : World)   (R : Option Addr → World → Prop)  :
    (
  New (.cells #[.int .i64 (0 : Int), .int .i64 (0 : Int), .int .u8 (0 : Int), .int .u8 (0 : Int), .int .i64 (0 : Int), .int .u8 (0 : Int), .int .u8 (0 : Int), .int .u8 (0 : Int), .int .i64 (0 : Int), .int .i64 (0 : Int), .int .u8 (0 : Int), .int .u8 (0 : Int), .int .i64 (0 : Int), .int .u8 (0 : Int), .int .u8 (0 : Int), .int .u8 (0 : Int), .int .i64 (0 : Int), .int .i64 (0 : Int), .int .u8 (0 : Int), .int .u8 (0 : Int), .int .i64 (0 : Int), .int .u8 (0 : Int), .int .u8 (0 : Int), .int .u8 (0 : Int), .int .i64 (0 : Int), .int .i64 (0 : Int), .int .u8 (0 : Int), .int .u8 (0 : Int), .int .i64 (0 : Int), .int .u8 (0 : Int), .int .u8 (0 : Int), .int .u8 (0 : Int), .int .i64 (0 : Int), .int .i64 (0 : Int), .int .u8 (0 : Int), .int .u8 (0 : Int), .int .i64 (0 : Int), .int .u8 (0 : Int), .int .u8 (0 : Int), .int .u8 (0 : Int), .int .i64 (0 : Int), .int .i64 (0 : Int), .int .u8 (0 : Int), .int .u8 (0 : Int), .int .i64 (0 : Int), .int .u8 (0 : Int), .int .u8 (0 : Int), .int .u8 (0 : Int), .int .i64 (0 : Int), .int .i64 (0 : Int), .int .u8 (0 : Int), .int .u8 (0 : Int), .int .i64 (0 : Int), .int .u8 (0 : Int), .int .u8 (0 : Int), .int .u8 (0 : Int), .int .i64 (0 : Int), .int .i64 (0 : Int), .int .u8 (0 : Int), .int .u8 (0 : Int), .int .i64 (0 : Int), .int .u8 (0 : Int), .int .u8 (0 : Int), .int .u8 (0 : Int), .int .i64 (0 : Int), .int .i64 (0 : Int), .int .i64 (0 : Int), .int .i64 (0 : Int), .int .i64 (0 : Int), .int .u8 (0 : Int), .int .u8 (0 : Int), .int .u8 (0 : Int), .int .i64 (0 : Int), .int .i64 (0 : Int), .int .i64 (0 : Int), .int .u8 (0 : Int), .int .u8 (0 : Int), .int .u8 (0 : Int), .int .i64 (0 : Int), .int .i64 (0 : Int), .int .i64 (0 : Int), .int .u8 (0 : Int), .int .u8 (0 : Int), .int .u8 (0 : Int)] 74) w fun b2 w1 =>
  R (some ⟨b2, 0, none⟩) w1) = kstep Tryz.prog 3 Tryz.f10.results.toList (Tryz.f10.body.getD .skip) (kv_New.RV R) (kvc Tryz.prog 3 Tryz.f10.results.toList (Tryz.f10.body.getD .skip) (kv_New.RV R) [] 2000) [(0, [])] [] w := by kernel_rfl
theorem kv_New.B0_sound {R : Option Addr → World → Prop}   (w : World) (h : kv_New.B0  w   R) :
    KW Tryz.prog 10 3 (kv_New.RV R) ([(0, [])].map (toItem (Tryz.f10.body.getD .skip))) [] w := by
  exact block_spec Tryz.func10 Tryz.mixed stops_nil (Eq.mp (kv_New.B0_eq  w   R ) h)
theorem kv_New.sound  (w : World) (R : Option Addr → World → Prop) (h : kv_New.B0  w R) : kv_New.Call  w R := by
  have hc := calls_of_block (args := #[]) Tryz.func10 (body := (Tryz.f10.body.getD .skip)) (by kernel_rfl) (by kernel_rfl) (args_slot _) (kv_New.B0_sound  w h)
  exact hc.mono fun e w' he => by
    obtain ⟨v, rfl, hv⟩ := he
    exact kv_New.RV_elim hv
def node_New.B0 (sy ks : Option Addr) (w : World)   (R : Option Addr → World → Prop) : Prop :=
  node_Open.Call sy ks w fun r7 w1 =>
  R r7 w1
theorem node_New.B0_eq (sy ks : Option Addr) (w : World)   (R : Option Addr → World → Prop)  :
    (
  node_Open.Call sy ks w fun r7 w1 =>
  R r7 w1) = kstep Tryz.prog 8 Tryz.f11.results.toList (Tryz.f11.body.getD .skip) (node_New.RV R) (kvc Tryz.prog 8 Tryz.f11.results.toList (Tryz.f11.body.getD .skip) (node_New.RV R) [] 2000) [(0, [])] [(0, .pointer sy), (1, .pointer ks)] w := by kernel_rfl
theorem node_New.B0_sound {R : Option Addr → World → Prop}  (sy ks : Option Addr) (w : World) (h : node_New.B0 sy ks w   R) :
    KW Tryz.prog 11 8 (node_New.RV R) ([(0, [])].map (toItem (Tryz.f11.body.getD .skip))) [(0, .pointer sy), (1, .pointer ks)] w := by
  exact block_spec Tryz.func11 Tryz.mixed stops_nil (Eq.mp (node_New.B0_eq sy ks w   R ) h)
theorem node_New.sound (sy ks : Option Addr) (w : World) (R : Option Addr → World → Prop) (h : node_New.B0 sy ks w R) : node_New.Call sy ks w R := by
  have hc := calls_of_block (args := #[.pointer sy, .pointer ks]) Tryz.func11 (body := (Tryz.f11.body.getD .skip)) (by kernel_rfl) (by kernel_rfl) (args_slot _) (node_New.B0_sound sy ks w h)
  exact hc.mono fun e w' he => by
    obtain ⟨v, rfl, hv⟩ := he
    exact node_New.RV_elim hv
def nodem_New.B0 (id0 : Int) (w : World)   (R : Option Addr → World → Prop) : Prop :=
  syncm_New.Call id0 w fun r6 w1 =>
  kvm_New.Call  w1 fun r7 w2 =>
  nodem_open.Call r6 r7 w2 fun r10 w3 =>
  R r10 w3
theorem nodem_New.B0_eq (id0 : Int) (w : World)   (R : Option Addr → World → Prop)  :
    (
  syncm_New.Call id0 w fun r6 w1 =>
  kvm_New.Call  w1 fun r7 w2 =>
  nodem_open.Call r6 r7 w2 fun r10 w3 =>
  R r10 w3) = kstep Tryz.prog 11 Tryz.f12.results.toList (Tryz.f12.body.getD .skip) (nodem_New.RV R) (kvc Tryz.prog 11 Tryz.f12.results.toList (Tryz.f12.body.getD .skip) (nodem_New.RV R) [] 2000) [(0, [])] [(0, .int .i64 id0)] w := by kernel_rfl
theorem nodem_New.B0_sound {R : Option Addr → World → Prop}  (id0 : Int) (w : World) (h : nodem_New.B0 id0 w   R) :
    KW Tryz.prog 12 11 (nodem_New.RV R) ([(0, [])].map (toItem (Tryz.f12.body.getD .skip))) [(0, .int .i64 id0)] w := by
  exact block_spec Tryz.func12 Tryz.mixed stops_nil (Eq.mp (nodem_New.B0_eq id0 w   R ) h)
theorem nodem_New.sound (id0 : Int) (w : World) (R : Option Addr → World → Prop) (h : nodem_New.B0 id0 w R) : nodem_New.Call id0 w R := by
  have hc := calls_of_block (args := #[.int .i64 id0]) Tryz.func12 (body := (Tryz.f12.body.getD .skip)) (by kernel_rfl) (by kernel_rfl) (args_slot _) (nodem_New.B0_sound id0 w h)
  exact hc.mono fun e w' he => by
    obtain ⟨v, rfl, hv⟩ := he
    exact nodem_New.RV_elim hv
def nodelaw_Steps.B0 (b_0 b_1 : Option Addr) (b_2 : Int) (w : World)   (R : Int → World → Prop) : Prop :=
  New (.cells #[.pointer b_0, .pointer b_1, .int .i64 b_2] 30) w fun b_ w1 =>
  LdP ⟨b_, 0, none⟩ w1 fun x4 =>
  diskm_Disk_Steps.Call x4 w1 fun r5 w2 =>
  R r5 w2
theorem nodelaw_Steps.B0_eq (b_0 b_1 : Option Addr) (b_2 : Int) (w : World)   (R : Int → World → Prop)  :
    (
  New (.cells #[.pointer b_0, .pointer b_1, .int .i64 b_2] 30) w fun b_ w1 =>
  LdP ⟨b_, 0, none⟩ w1 fun x4 =>
  diskm_Disk_Steps.Call x4 w1 fun r5 w2 =>
  R r5 w2) = kstep Tryz.prog 6 Tryz.f13.results.toList (Tryz.f13.body.getD .skip) (nodelaw_Steps.RV R) (kvc Tryz.prog 6 Tryz.f13.results.toList (Tryz.f13.body.getD .skip) (nodelaw_Steps.RV R) [] 2000) [(0, [])] [(0, .agg #[.pointer b_0, .pointer b_1, .int .i64 b_2])] w := by kernel_rfl
theorem nodelaw_Steps.B0_sound {R : Int → World → Prop}  (b_0 b_1 : Option Addr) (b_2 : Int) (w : World) (h : nodelaw_Steps.B0 b_0 b_1 b_2 w   R) :
    KW Tryz.prog 13 6 (nodelaw_Steps.RV R) ([(0, [])].map (toItem (Tryz.f13.body.getD .skip))) [(0, .agg #[.pointer b_0, .pointer b_1, .int .i64 b_2])] w := by
  exact block_spec Tryz.func13 Tryz.mixed stops_nil (Eq.mp (nodelaw_Steps.B0_eq b_0 b_1 b_2 w   R ) h)
theorem nodelaw_Steps.sound (b_0 b_1 : Option Addr) (b_2 : Int) (w : World) (R : Int → World → Prop) (h : nodelaw_Steps.B0 b_0 b_1 b_2 w R) : nodelaw_Steps.Call b_0 b_1 b_2 w R := by
  have hc := calls_of_block (args := #[.agg #[.pointer b_0, .pointer b_1, .int .i64 b_2]]) Tryz.func13 (body := (Tryz.f13.body.getD .skip)) (by kernel_rfl) (by kernel_rfl) (args_slot _) (nodelaw_Steps.B0_sound b_0 b_1 b_2 w h)
  exact hc.mono fun e w' he => by
    obtain ⟨v, rfl, hv⟩ := he
    exact nodelaw_Steps.RV_elim hv
def nodelaw_Seen.B0 (x m0 b_0 b_1 : Option Addr) (b_2 n : Int) (key : ByteArray) (w : World)   (R : Bool → World → Prop) : Prop :=
  New (.cells #[.pointer b_0, .pointer b_1, .int .i64 b_2] 30) w fun b_ w1 =>
  node_Node_Check.Call x w1 fun r12 w2 =>
  Bm (!(r12.toList == (ByteArray.mk #[]).toList)) (
    R false w2) (
    nodelaw_Alike.Call x m0 key w2 fun r17 w3 =>
    Bm (!r17) (
      R false w3) (
      LdP ⟨b_, 0, none⟩ w3 fun x19_0 =>
      LdP ⟨b_, 1, none⟩ w3 fun x19_1 =>
      LdI .i64 ⟨b_, 2, none⟩ w3 fun x19_2 =>
      nodelaw_Steps.Call x19_0 x19_1 x19_2 w3 fun r20 w4 =>
      R (r20 == n) w4))
theorem nodelaw_Seen.B0_eq (x m0 b_0 b_1 : Option Addr) (b_2 n : Int) (key : ByteArray) (w : World)   (R : Bool → World → Prop)  :
    (
  New (.cells #[.pointer b_0, .pointer b_1, .int .i64 b_2] 30) w fun b_ w1 =>
  node_Node_Check.Call x w1 fun r12 w2 =>
  Bm (!(r12.toList == (ByteArray.mk #[]).toList)) (
    R false w2) (
    nodelaw_Alike.Call x m0 key w2 fun r17 w3 =>
    Bm (!r17) (
      R false w3) (
      LdP ⟨b_, 0, none⟩ w3 fun x19_0 =>
      LdP ⟨b_, 1, none⟩ w3 fun x19_1 =>
      LdI .i64 ⟨b_, 2, none⟩ w3 fun x19_2 =>
      nodelaw_Steps.Call x19_0 x19_1 x19_2 w3 fun r20 w4 =>
      R (r20 == n) w4))) = kstep Tryz.prog 23 Tryz.f14.results.toList (Tryz.f14.body.getD .skip) (nodelaw_Seen.RV R) (kvc Tryz.prog 23 Tryz.f14.results.toList (Tryz.f14.body.getD .skip) (nodelaw_Seen.RV R) [] 2000) [(0, [])] [(0, .pointer x), (1, .pointer m0), (2, .agg #[.pointer b_0, .pointer b_1, .int .i64 b_2]), (3, .int .i64 n), (4, .string key)] w := by kernel_rfl
theorem nodelaw_Seen.B0_sound {R : Bool → World → Prop}  (x m0 b_0 b_1 : Option Addr) (b_2 n : Int) (key : ByteArray) (w : World) (h : nodelaw_Seen.B0 x m0 b_0 b_1 b_2 n key w   R) :
    KW Tryz.prog 14 23 (nodelaw_Seen.RV R) ([(0, [])].map (toItem (Tryz.f14.body.getD .skip))) [(0, .pointer x), (1, .pointer m0), (2, .agg #[.pointer b_0, .pointer b_1, .int .i64 b_2]), (3, .int .i64 n), (4, .string key)] w := by
  exact block_spec Tryz.func14 Tryz.mixed stops_nil (Eq.mp (nodelaw_Seen.B0_eq x m0 b_0 b_1 b_2 n key w   R ) h)
theorem nodelaw_Seen.sound (x m0 b_0 b_1 : Option Addr) (b_2 n : Int) (key : ByteArray) (w : World) (R : Bool → World → Prop) (h : nodelaw_Seen.B0 x m0 b_0 b_1 b_2 n key w R) : nodelaw_Seen.Call x m0 b_0 b_1 b_2 n key w R := by
  have hc := calls_of_block (args := #[.pointer x, .pointer m0, .agg #[.pointer b_0, .pointer b_1, .int .i64 b_2], .int .i64 n, .string key]) Tryz.func14 (body := (Tryz.f14.body.getD .skip)) (by kernel_rfl) (by kernel_rfl) (args_slot _) (nodelaw_Seen.B0_sound x m0 b_0 b_1 b_2 n key w h)
  exact hc.mono fun e w' he => by
    obtain ⟨v, rfl, hv⟩ := he
    exact nodelaw_Seen.RV_elim hv
def nodelaw_Mark.B0 (b_0 b_1 : Option Addr) (b_2 : Int) (w : World)   (R : World → Prop) : Prop :=
  New (.cells #[.pointer b_0, .pointer b_1, .int .i64 b_2] 30) w fun b_ w1 =>
  LdP ⟨b_, 0, none⟩ w1 fun x3 =>
  diskm_Disk_Mark.Call x3 w1 fun w2 =>
  R  w2
theorem nodelaw_Mark.B0_eq (b_0 b_1 : Option Addr) (b_2 : Int) (w : World)   (R : World → Prop)  :
    (
  New (.cells #[.pointer b_0, .pointer b_1, .int .i64 b_2] 30) w fun b_ w1 =>
  LdP ⟨b_, 0, none⟩ w1 fun x3 =>
  diskm_Disk_Mark.Call x3 w1 fun w2 =>
  R  w2) = kstep Tryz.prog 5 Tryz.f15.results.toList (Tryz.f15.body.getD .skip) (nodelaw_Mark.RV R) (kvc Tryz.prog 5 Tryz.f15.results.toList (Tryz.f15.body.getD .skip) (nodelaw_Mark.RV R) [] 2000) [(0, [])] [(0, .agg #[.pointer b_0, .pointer b_1, .int .i64 b_2])] w := by kernel_rfl
theorem nodelaw_Mark.B0_sound {R : World → Prop}  (b_0 b_1 : Option Addr) (b_2 : Int) (w : World) (h : nodelaw_Mark.B0 b_0 b_1 b_2 w   R) :
    KW Tryz.prog 15 5 (nodelaw_Mark.RV R) ([(0, [])].map (toItem (Tryz.f15.body.getD .skip))) [(0, .agg #[.pointer b_0, .pointer b_1, .int .i64 b_2])] w := by
  exact block_spec Tryz.func15 Tryz.mixed stops_nil (Eq.mp (nodelaw_Mark.B0_eq b_0 b_1 b_2 w   R ) h)
theorem nodelaw_Mark.sound (b_0 b_1 : Option Addr) (b_2 : Int) (w : World) (R : World → Prop) (h : nodelaw_Mark.B0 b_0 b_1 b_2 w R) : nodelaw_Mark.Call b_0 b_1 b_2 w R := by
  have hc := calls_of_block (args := #[.agg #[.pointer b_0, .pointer b_1, .int .i64 b_2]]) Tryz.func15 (body := (Tryz.f15.body.getD .skip)) (by kernel_rfl) (by kernel_rfl) (args_slot _) (nodelaw_Mark.B0_sound b_0 b_1 b_2 w h)
  exact hc.mono fun e w' he => by
    obtain ⟨v, rfl, hv⟩ := he
    exact nodelaw_Mark.RV_elim hv
def nodem_Node_Mark.B0 (n : Option Addr) (w : World)   (R : World → Prop) : Prop :=
  Pn n fun a =>
  LdP a w fun x5 =>
  syncm_Sync_Mark.Call x5 w fun w1 =>
  R  w1
theorem nodem_Node_Mark.B0_eq (n : Option Addr) (w : World)   (R : World → Prop)  :
    (
  Pn n fun a =>
  LdP a w fun x5 =>
  syncm_Sync_Mark.Call x5 w fun w1 =>
  R  w1) = kstep Tryz.prog 7 Tryz.f16.results.toList (Tryz.f16.body.getD .skip) (nodem_Node_Mark.RV R) (kvc Tryz.prog 7 Tryz.f16.results.toList (Tryz.f16.body.getD .skip) (nodem_Node_Mark.RV R) [] 2000) [(0, [])] [(0, .pointer n)] w := by kernel_rfl
theorem nodem_Node_Mark.B0_sound {R : World → Prop}  (n : Option Addr) (w : World) (h : nodem_Node_Mark.B0 n w   R) :
    KW Tryz.prog 16 7 (nodem_Node_Mark.RV R) ([(0, [])].map (toItem (Tryz.f16.body.getD .skip))) [(0, .pointer n)] w := by
  exact block_spec Tryz.func16 Tryz.mixed stops_nil (Eq.mp (nodem_Node_Mark.B0_eq n w   R ) h)
theorem nodem_Node_Mark.sound (n : Option Addr) (w : World) (R : World → Prop) (h : nodem_Node_Mark.B0 n w R) : nodem_Node_Mark.Call n w R := by
  have hc := calls_of_block (args := #[.pointer n]) Tryz.func16 (body := (Tryz.f16.body.getD .skip)) (by kernel_rfl) (by kernel_rfl) (args_slot _) (nodem_Node_Mark.B0_sound n w h)
  exact hc.mono fun e w' he => by
    obtain ⟨v, rfl, hv⟩ := he
    exact nodem_Node_Mark.RV_elim hv
def nodelaw_EventReal.B0 (x : Option Addr) (o_0 o_1 o_2 o_3 : Int) (o_4 o_5 : ByteArray) (w : World)   (R : Int → Option Addr → Nat → Nat → Option Addr → Nat → Nat → World → Prop) : Prop :=
  New (.cells #[.int .i64 o_0, .int .i64 o_1, .int .i64 o_2, .int .i64 o_3, .string o_4, .string o_5] 47) w fun o_ w1 =>
  New (.cells #[.int .i64 (0 : Int), .slice none 0 0, .slice none 0 0] 42) w1 fun b4 w2 =>
  LdI .i64 ⟨o_, 0, none⟩ w2 fun x7 =>
  Bm (x7 == (1 : Int)) (
    node_Node_Tick.Call x w2 fun r11_0 r11_1_b r11_1_l r11_1_c r11_2_b r11_2_l r11_2_c w3 =>
    Sts [.int .i64 r11_0, .slice r11_1_b r11_1_l r11_1_c, .slice r11_2_b r11_2_l r11_2_c] ⟨b4, 0, none⟩ 0 w3 fun w4 =>
    LdI .i64 ⟨b4, 0, none⟩ w4 fun r_0 =>
    LdL ⟨b4, 1, none⟩ w4 fun r_1_b r_1_l r_1_c =>
    LdL ⟨b4, 2, none⟩ w4 fun r_2_b r_2_l r_2_c =>
    R r_0 r_1_b r_1_l r_1_c r_2_b r_2_l r_2_c w4) (
    Bm (x7 == (2 : Int)) (
      LdS ⟨o_, 4, none⟩ w2 fun x16 =>
      node_Node_Receive.Call x x16 w2 fun r17_0 r17_1_b r17_1_l r17_1_c r17_2_b r17_2_l r17_2_c w5 =>
      Sts [.int .i64 r17_0, .slice r17_1_b r17_1_l r17_1_c, .slice r17_2_b r17_2_l r17_2_c] ⟨b4, 0, none⟩ 0 w5 fun w6 =>
      LdI .i64 ⟨b4, 0, none⟩ w6 fun r_0_1 =>
      LdL ⟨b4, 1, none⟩ w6 fun r_1_b_1 r_1_l_1 r_1_c_1 =>
      LdL ⟨b4, 2, none⟩ w6 fun r_2_b_1 r_2_l_1 r_2_c_1 =>
      R r_0_1 r_1_b_1 r_1_l_1 r_1_c_1 r_2_b_1 r_2_l_1 r_2_c_1 w6) (
      Bm (x7 == (3 : Int)) (
        LdI .i64 ⟨o_, 0, none⟩ w2 fun x20_0 =>
        LdI .i64 ⟨o_, 1, none⟩ w2 fun x20_1 =>
        LdI .i64 ⟨o_, 2, none⟩ w2 fun x20_2 =>
        LdI .i64 ⟨o_, 3, none⟩ w2 fun x20_3 =>
        LdS ⟨o_, 4, none⟩ w2 fun x20_4 =>
        LdS ⟨o_, 5, none⟩ w2 fun x20_5 =>
        nodelaw_CmdOf.Call x20_0 x20_1 x20_2 x20_3 x20_4 x20_5 w2 fun r21_0 r21_1 r21_2 r21_3 r21_4 r21_5 w7 =>
        New (.cells #[.int .i64 (0 : Int), .int .i64 (0 : Int), .int .i64 (0 : Int), .string (ByteArray.mk #[]), .string (ByteArray.mk #[]), .string (ByteArray.mk #[])] 87) w7 fun c_ w8 =>
        Sts [.int .i64 r21_0, .int .i64 r21_1, .int .i64 r21_2, .string r21_3, .string r21_4, .string r21_5] ⟨c_, 0, none⟩ 0 w8 fun w9 =>
        LdI .i64 ⟨c_, 0, none⟩ w9 fun x23_0 =>
        LdI .i64 ⟨c_, 1, none⟩ w9 fun x23_1 =>
        LdI .i64 ⟨c_, 2, none⟩ w9 fun x23_2 =>
        LdS ⟨c_, 3, none⟩ w9 fun x23_3 =>
        LdS ⟨c_, 4, none⟩ w9 fun x23_4 =>
        LdS ⟨c_, 5, none⟩ w9 fun x23_5 =>
        node_Node_Call.Call x x23_0 x23_1 x23_2 x23_3 x23_4 x23_5 w9 fun r24_0 r24_1_b r24_1_l r24_1_c r24_2_b r24_2_l r24_2_c w10 =>
        Sts [.int .i64 r24_0, .slice r24_1_b r24_1_l r24_1_c, .slice r24_2_b r24_2_l r24_2_c] ⟨b4, 0, none⟩ 0 w10 fun w11 =>
        LdI .i64 ⟨b4, 0, none⟩ w11 fun r_0_2 =>
        LdL ⟨b4, 1, none⟩ w11 fun r_1_b_2 r_1_l_2 r_1_c_2 =>
        LdL ⟨b4, 2, none⟩ w11 fun r_2_b_2 r_2_l_2 r_2_c_2 =>
        R r_0_2 r_1_b_2 r_1_l_2 r_1_c_2 r_2_b_2 r_2_l_2 r_2_c_2 w11) (
        Sts [.int .i64 (0 : Int), .slice none 0 0, .slice none 0 0] ⟨b4, 0, none⟩ 0 w2 fun w12 =>
        LdI .i64 ⟨b4, 0, none⟩ w12 fun r_0_3 =>
        LdL ⟨b4, 1, none⟩ w12 fun r_1_b_3 r_1_l_3 r_1_c_3 =>
        LdL ⟨b4, 2, none⟩ w12 fun r_2_b_3 r_2_l_3 r_2_c_3 =>
        R r_0_3 r_1_b_3 r_1_l_3 r_1_c_3 r_2_b_3 r_2_l_3 r_2_c_3 w12)))
theorem nodelaw_EventReal.B0_eq (x : Option Addr) (o_0 o_1 o_2 o_3 : Int) (o_4 o_5 : ByteArray) (w : World)   (R : Int → Option Addr → Nat → Nat → Option Addr → Nat → Nat → World → Prop)  :
    (
  New (.cells #[.int .i64 o_0, .int .i64 o_1, .int .i64 o_2, .int .i64 o_3, .string o_4, .string o_5] 47) w fun o_ w1 =>
  New (.cells #[.int .i64 (0 : Int), .slice none 0 0, .slice none 0 0] 42) w1 fun b4 w2 =>
  LdI .i64 ⟨o_, 0, none⟩ w2 fun x7 =>
  Bm (x7 == (1 : Int)) (
    node_Node_Tick.Call x w2 fun r11_0 r11_1_b r11_1_l r11_1_c r11_2_b r11_2_l r11_2_c w3 =>
    Sts [.int .i64 r11_0, .slice r11_1_b r11_1_l r11_1_c, .slice r11_2_b r11_2_l r11_2_c] ⟨b4, 0, none⟩ 0 w3 fun w4 =>
    LdI .i64 ⟨b4, 0, none⟩ w4 fun r_0 =>
    LdL ⟨b4, 1, none⟩ w4 fun r_1_b r_1_l r_1_c =>
    LdL ⟨b4, 2, none⟩ w4 fun r_2_b r_2_l r_2_c =>
    R r_0 r_1_b r_1_l r_1_c r_2_b r_2_l r_2_c w4) (
    Bm (x7 == (2 : Int)) (
      LdS ⟨o_, 4, none⟩ w2 fun x16 =>
      node_Node_Receive.Call x x16 w2 fun r17_0 r17_1_b r17_1_l r17_1_c r17_2_b r17_2_l r17_2_c w5 =>
      Sts [.int .i64 r17_0, .slice r17_1_b r17_1_l r17_1_c, .slice r17_2_b r17_2_l r17_2_c] ⟨b4, 0, none⟩ 0 w5 fun w6 =>
      LdI .i64 ⟨b4, 0, none⟩ w6 fun r_0_1 =>
      LdL ⟨b4, 1, none⟩ w6 fun r_1_b_1 r_1_l_1 r_1_c_1 =>
      LdL ⟨b4, 2, none⟩ w6 fun r_2_b_1 r_2_l_1 r_2_c_1 =>
      R r_0_1 r_1_b_1 r_1_l_1 r_1_c_1 r_2_b_1 r_2_l_1 r_2_c_1 w6) (
      Bm (x7 == (3 : Int)) (
        LdI .i64 ⟨o_, 0, none⟩ w2 fun x20_0 =>
        LdI .i64 ⟨o_, 1, none⟩ w2 fun x20_1 =>
        LdI .i64 ⟨o_, 2, none⟩ w2 fun x20_2 =>
        LdI .i64 ⟨o_, 3, none⟩ w2 fun x20_3 =>
        LdS ⟨o_, 4, none⟩ w2 fun x20_4 =>
        LdS ⟨o_, 5, none⟩ w2 fun x20_5 =>
        nodelaw_CmdOf.Call x20_0 x20_1 x20_2 x20_3 x20_4 x20_5 w2 fun r21_0 r21_1 r21_2 r21_3 r21_4 r21_5 w7 =>
        New (.cells #[.int .i64 (0 : Int), .int .i64 (0 : Int), .int .i64 (0 : Int), .string (ByteArray.mk #[]), .string (ByteArray.mk #[]), .string (ByteArray.mk #[])] 87) w7 fun c_ w8 =>
        Sts [.int .i64 r21_0, .int .i64 r21_1, .int .i64 r21_2, .string r21_3, .string r21_4, .string r21_5] ⟨c_, 0, none⟩ 0 w8 fun w9 =>
        LdI .i64 ⟨c_, 0, none⟩ w9 fun x23_0 =>
        LdI .i64 ⟨c_, 1, none⟩ w9 fun x23_1 =>
        LdI .i64 ⟨c_, 2, none⟩ w9 fun x23_2 =>
        LdS ⟨c_, 3, none⟩ w9 fun x23_3 =>
        LdS ⟨c_, 4, none⟩ w9 fun x23_4 =>
        LdS ⟨c_, 5, none⟩ w9 fun x23_5 =>
        node_Node_Call.Call x x23_0 x23_1 x23_2 x23_3 x23_4 x23_5 w9 fun r24_0 r24_1_b r24_1_l r24_1_c r24_2_b r24_2_l r24_2_c w10 =>
        Sts [.int .i64 r24_0, .slice r24_1_b r24_1_l r24_1_c, .slice r24_2_b r24_2_l r24_2_c] ⟨b4, 0, none⟩ 0 w10 fun w11 =>
        LdI .i64 ⟨b4, 0, none⟩ w11 fun r_0_2 =>
        LdL ⟨b4, 1, none⟩ w11 fun r_1_b_2 r_1_l_2 r_1_c_2 =>
        LdL ⟨b4, 2, none⟩ w11 fun r_2_b_2 r_2_l_2 r_2_c_2 =>
        R r_0_2 r_1_b_2 r_1_l_2 r_1_c_2 r_2_b_2 r_2_l_2 r_2_c_2 w11) (
        Sts [.int .i64 (0 : Int), .slice none 0 0, .slice none 0 0] ⟨b4, 0, none⟩ 0 w2 fun w12 =>
        LdI .i64 ⟨b4, 0, none⟩ w12 fun r_0_3 =>
        LdL ⟨b4, 1, none⟩ w12 fun r_1_b_3 r_1_l_3 r_1_c_3 =>
        LdL ⟨b4, 2, none⟩ w12 fun r_2_b_3 r_2_l_3 r_2_c_3 =>
        R r_0_3 r_1_b_3 r_1_l_3 r_1_c_3 r_2_b_3 r_2_l_3 r_2_c_3 w12)))) = kstep Tryz.prog 26 Tryz.f17.results.toList (Tryz.f17.body.getD .skip) (nodelaw_EventReal.RV R) (kvc Tryz.prog 26 Tryz.f17.results.toList (Tryz.f17.body.getD .skip) (nodelaw_EventReal.RV R) [] 2000) [(0, [])] [(0, .pointer x), (1, .agg #[.int .i64 o_0, .int .i64 o_1, .int .i64 o_2, .int .i64 o_3, .string o_4, .string o_5])] w := by kernel_rfl
theorem nodelaw_EventReal.B0_sound {R : Int → Option Addr → Nat → Nat → Option Addr → Nat → Nat → World → Prop}  (x : Option Addr) (o_0 o_1 o_2 o_3 : Int) (o_4 o_5 : ByteArray) (w : World) (h : nodelaw_EventReal.B0 x o_0 o_1 o_2 o_3 o_4 o_5 w   R) :
    KW Tryz.prog 17 26 (nodelaw_EventReal.RV R) ([(0, [])].map (toItem (Tryz.f17.body.getD .skip))) [(0, .pointer x), (1, .agg #[.int .i64 o_0, .int .i64 o_1, .int .i64 o_2, .int .i64 o_3, .string o_4, .string o_5])] w := by
  exact block_spec Tryz.func17 Tryz.mixed stops_nil (Eq.mp (nodelaw_EventReal.B0_eq x o_0 o_1 o_2 o_3 o_4 o_5 w   R ) h)
theorem nodelaw_EventReal.sound (x : Option Addr) (o_0 o_1 o_2 o_3 : Int) (o_4 o_5 : ByteArray) (w : World) (R : Int → Option Addr → Nat → Nat → Option Addr → Nat → Nat → World → Prop) (h : nodelaw_EventReal.B0 x o_0 o_1 o_2 o_3 o_4 o_5 w R) : nodelaw_EventReal.Call x o_0 o_1 o_2 o_3 o_4 o_5 w R := by
  have hc := calls_of_block (args := #[.pointer x, .agg #[.int .i64 o_0, .int .i64 o_1, .int .i64 o_2, .int .i64 o_3, .string o_4, .string o_5]]) Tryz.func17 (body := (Tryz.f17.body.getD .skip)) (by kernel_rfl) (by kernel_rfl) (args_slot _) (nodelaw_EventReal.B0_sound x o_0 o_1 o_2 o_3 o_4 o_5 w h)
  exact hc.mono fun e w' he => by
    obtain ⟨v, rfl, hv⟩ := he
    exact nodelaw_EventReal.RV_elim hv
def nodelaw_EventModel.B0 (m0 : Option Addr) (o_0 o_1 o_2 o_3 : Int) (o_4 o_5 : ByteArray) (w : World)   (R : Int → Option Addr → Nat → Nat → Option Addr → Nat → Nat → World → Prop) : Prop :=
  New (.cells #[.int .i64 o_0, .int .i64 o_1, .int .i64 o_2, .int .i64 o_3, .string o_4, .string o_5] 47) w fun o_ w1 =>
  New (.cells #[.int .i64 (0 : Int), .slice none 0 0, .slice none 0 0] 42) w1 fun b4 w2 =>
  LdI .i64 ⟨o_, 0, none⟩ w2 fun x7 =>
  Bm (x7 == (1 : Int)) (
    nodem_Node_Tick.Call m0 w2 fun r11_0 r11_1_b r11_1_l r11_1_c r11_2_b r11_2_l r11_2_c w3 =>
    Sts [.int .i64 r11_0, .slice r11_1_b r11_1_l r11_1_c, .slice r11_2_b r11_2_l r11_2_c] ⟨b4, 0, none⟩ 0 w3 fun w4 =>
    LdI .i64 ⟨b4, 0, none⟩ w4 fun r_0 =>
    LdL ⟨b4, 1, none⟩ w4 fun r_1_b r_1_l r_1_c =>
    LdL ⟨b4, 2, none⟩ w4 fun r_2_b r_2_l r_2_c =>
    R r_0 r_1_b r_1_l r_1_c r_2_b r_2_l r_2_c w4) (
    Bm (x7 == (2 : Int)) (
      LdS ⟨o_, 4, none⟩ w2 fun x16 =>
      nodem_Node_Receive.Call m0 x16 w2 fun r17_0 r17_1_b r17_1_l r17_1_c r17_2_b r17_2_l r17_2_c w5 =>
      Sts [.int .i64 r17_0, .slice r17_1_b r17_1_l r17_1_c, .slice r17_2_b r17_2_l r17_2_c] ⟨b4, 0, none⟩ 0 w5 fun w6 =>
      LdI .i64 ⟨b4, 0, none⟩ w6 fun r_0_1 =>
      LdL ⟨b4, 1, none⟩ w6 fun r_1_b_1 r_1_l_1 r_1_c_1 =>
      LdL ⟨b4, 2, none⟩ w6 fun r_2_b_1 r_2_l_1 r_2_c_1 =>
      R r_0_1 r_1_b_1 r_1_l_1 r_1_c_1 r_2_b_1 r_2_l_1 r_2_c_1 w6) (
      Bm (x7 == (3 : Int)) (
        LdI .i64 ⟨o_, 0, none⟩ w2 fun x20_0 =>
        LdI .i64 ⟨o_, 1, none⟩ w2 fun x20_1 =>
        LdI .i64 ⟨o_, 2, none⟩ w2 fun x20_2 =>
        LdI .i64 ⟨o_, 3, none⟩ w2 fun x20_3 =>
        LdS ⟨o_, 4, none⟩ w2 fun x20_4 =>
        LdS ⟨o_, 5, none⟩ w2 fun x20_5 =>
        nodelaw_CmdOf.Call x20_0 x20_1 x20_2 x20_3 x20_4 x20_5 w2 fun r21_0 r21_1 r21_2 r21_3 r21_4 r21_5 w7 =>
        New (.cells #[.int .i64 (0 : Int), .int .i64 (0 : Int), .int .i64 (0 : Int), .string (ByteArray.mk #[]), .string (ByteArray.mk #[]), .string (ByteArray.mk #[])] 87) w7 fun c_ w8 =>
        Sts [.int .i64 r21_0, .int .i64 r21_1, .int .i64 r21_2, .string r21_3, .string r21_4, .string r21_5] ⟨c_, 0, none⟩ 0 w8 fun w9 =>
        LdI .i64 ⟨c_, 0, none⟩ w9 fun x23_0 =>
        LdI .i64 ⟨c_, 1, none⟩ w9 fun x23_1 =>
        LdI .i64 ⟨c_, 2, none⟩ w9 fun x23_2 =>
        LdS ⟨c_, 3, none⟩ w9 fun x23_3 =>
        LdS ⟨c_, 4, none⟩ w9 fun x23_4 =>
        LdS ⟨c_, 5, none⟩ w9 fun x23_5 =>
        nodem_Node_Call.Call m0 x23_0 x23_1 x23_2 x23_3 x23_4 x23_5 w9 fun r24_0 r24_1_b r24_1_l r24_1_c r24_2_b r24_2_l r24_2_c w10 =>
        Sts [.int .i64 r24_0, .slice r24_1_b r24_1_l r24_1_c, .slice r24_2_b r24_2_l r24_2_c] ⟨b4, 0, none⟩ 0 w10 fun w11 =>
        LdI .i64 ⟨b4, 0, none⟩ w11 fun r_0_2 =>
        LdL ⟨b4, 1, none⟩ w11 fun r_1_b_2 r_1_l_2 r_1_c_2 =>
        LdL ⟨b4, 2, none⟩ w11 fun r_2_b_2 r_2_l_2 r_2_c_2 =>
        R r_0_2 r_1_b_2 r_1_l_2 r_1_c_2 r_2_b_2 r_2_l_2 r_2_c_2 w11) (
        Sts [.int .i64 (0 : Int), .slice none 0 0, .slice none 0 0] ⟨b4, 0, none⟩ 0 w2 fun w12 =>
        LdI .i64 ⟨b4, 0, none⟩ w12 fun r_0_3 =>
        LdL ⟨b4, 1, none⟩ w12 fun r_1_b_3 r_1_l_3 r_1_c_3 =>
        LdL ⟨b4, 2, none⟩ w12 fun r_2_b_3 r_2_l_3 r_2_c_3 =>
        R r_0_3 r_1_b_3 r_1_l_3 r_1_c_3 r_2_b_3 r_2_l_3 r_2_c_3 w12)))
theorem nodelaw_EventModel.B0_eq (m0 : Option Addr) (o_0 o_1 o_2 o_3 : Int) (o_4 o_5 : ByteArray) (w : World)   (R : Int → Option Addr → Nat → Nat → Option Addr → Nat → Nat → World → Prop)  :
    (
  New (.cells #[.int .i64 o_0, .int .i64 o_1, .int .i64 o_2, .int .i64 o_3, .string o_4, .string o_5] 47) w fun o_ w1 =>
  New (.cells #[.int .i64 (0 : Int), .slice none 0 0, .slice none 0 0] 42) w1 fun b4 w2 =>
  LdI .i64 ⟨o_, 0, none⟩ w2 fun x7 =>
  Bm (x7 == (1 : Int)) (
    nodem_Node_Tick.Call m0 w2 fun r11_0 r11_1_b r11_1_l r11_1_c r11_2_b r11_2_l r11_2_c w3 =>
    Sts [.int .i64 r11_0, .slice r11_1_b r11_1_l r11_1_c, .slice r11_2_b r11_2_l r11_2_c] ⟨b4, 0, none⟩ 0 w3 fun w4 =>
    LdI .i64 ⟨b4, 0, none⟩ w4 fun r_0 =>
    LdL ⟨b4, 1, none⟩ w4 fun r_1_b r_1_l r_1_c =>
    LdL ⟨b4, 2, none⟩ w4 fun r_2_b r_2_l r_2_c =>
    R r_0 r_1_b r_1_l r_1_c r_2_b r_2_l r_2_c w4) (
    Bm (x7 == (2 : Int)) (
      LdS ⟨o_, 4, none⟩ w2 fun x16 =>
      nodem_Node_Receive.Call m0 x16 w2 fun r17_0 r17_1_b r17_1_l r17_1_c r17_2_b r17_2_l r17_2_c w5 =>
      Sts [.int .i64 r17_0, .slice r17_1_b r17_1_l r17_1_c, .slice r17_2_b r17_2_l r17_2_c] ⟨b4, 0, none⟩ 0 w5 fun w6 =>
      LdI .i64 ⟨b4, 0, none⟩ w6 fun r_0_1 =>
      LdL ⟨b4, 1, none⟩ w6 fun r_1_b_1 r_1_l_1 r_1_c_1 =>
      LdL ⟨b4, 2, none⟩ w6 fun r_2_b_1 r_2_l_1 r_2_c_1 =>
      R r_0_1 r_1_b_1 r_1_l_1 r_1_c_1 r_2_b_1 r_2_l_1 r_2_c_1 w6) (
      Bm (x7 == (3 : Int)) (
        LdI .i64 ⟨o_, 0, none⟩ w2 fun x20_0 =>
        LdI .i64 ⟨o_, 1, none⟩ w2 fun x20_1 =>
        LdI .i64 ⟨o_, 2, none⟩ w2 fun x20_2 =>
        LdI .i64 ⟨o_, 3, none⟩ w2 fun x20_3 =>
        LdS ⟨o_, 4, none⟩ w2 fun x20_4 =>
        LdS ⟨o_, 5, none⟩ w2 fun x20_5 =>
        nodelaw_CmdOf.Call x20_0 x20_1 x20_2 x20_3 x20_4 x20_5 w2 fun r21_0 r21_1 r21_2 r21_3 r21_4 r21_5 w7 =>
        New (.cells #[.int .i64 (0 : Int), .int .i64 (0 : Int), .int .i64 (0 : Int), .string (ByteArray.mk #[]), .string (ByteArray.mk #[]), .string (ByteArray.mk #[])] 87) w7 fun c_ w8 =>
        Sts [.int .i64 r21_0, .int .i64 r21_1, .int .i64 r21_2, .string r21_3, .string r21_4, .string r21_5] ⟨c_, 0, none⟩ 0 w8 fun w9 =>
        LdI .i64 ⟨c_, 0, none⟩ w9 fun x23_0 =>
        LdI .i64 ⟨c_, 1, none⟩ w9 fun x23_1 =>
        LdI .i64 ⟨c_, 2, none⟩ w9 fun x23_2 =>
        LdS ⟨c_, 3, none⟩ w9 fun x23_3 =>
        LdS ⟨c_, 4, none⟩ w9 fun x23_4 =>
        LdS ⟨c_, 5, none⟩ w9 fun x23_5 =>
        nodem_Node_Call.Call m0 x23_0 x23_1 x23_2 x23_3 x23_4 x23_5 w9 fun r24_0 r24_1_b r24_1_l r24_1_c r24_2_b r24_2_l r24_2_c w10 =>
        Sts [.int .i64 r24_0, .slice r24_1_b r24_1_l r24_1_c, .slice r24_2_b r24_2_l r24_2_c] ⟨b4, 0, none⟩ 0 w10 fun w11 =>
        LdI .i64 ⟨b4, 0, none⟩ w11 fun r_0_2 =>
        LdL ⟨b4, 1, none⟩ w11 fun r_1_b_2 r_1_l_2 r_1_c_2 =>
        LdL ⟨b4, 2, none⟩ w11 fun r_2_b_2 r_2_l_2 r_2_c_2 =>
        R r_0_2 r_1_b_2 r_1_l_2 r_1_c_2 r_2_b_2 r_2_l_2 r_2_c_2 w11) (
        Sts [.int .i64 (0 : Int), .slice none 0 0, .slice none 0 0] ⟨b4, 0, none⟩ 0 w2 fun w12 =>
        LdI .i64 ⟨b4, 0, none⟩ w12 fun r_0_3 =>
        LdL ⟨b4, 1, none⟩ w12 fun r_1_b_3 r_1_l_3 r_1_c_3 =>
        LdL ⟨b4, 2, none⟩ w12 fun r_2_b_3 r_2_l_3 r_2_c_3 =>
        R r_0_3 r_1_b_3 r_1_l_3 r_1_c_3 r_2_b_3 r_2_l_3 r_2_c_3 w12)))) = kstep Tryz.prog 26 Tryz.f18.results.toList (Tryz.f18.body.getD .skip) (nodelaw_EventModel.RV R) (kvc Tryz.prog 26 Tryz.f18.results.toList (Tryz.f18.body.getD .skip) (nodelaw_EventModel.RV R) [] 2000) [(0, [])] [(0, .pointer m0), (1, .agg #[.int .i64 o_0, .int .i64 o_1, .int .i64 o_2, .int .i64 o_3, .string o_4, .string o_5])] w := by kernel_rfl
theorem nodelaw_EventModel.B0_sound {R : Int → Option Addr → Nat → Nat → Option Addr → Nat → Nat → World → Prop}  (m0 : Option Addr) (o_0 o_1 o_2 o_3 : Int) (o_4 o_5 : ByteArray) (w : World) (h : nodelaw_EventModel.B0 m0 o_0 o_1 o_2 o_3 o_4 o_5 w   R) :
    KW Tryz.prog 18 26 (nodelaw_EventModel.RV R) ([(0, [])].map (toItem (Tryz.f18.body.getD .skip))) [(0, .pointer m0), (1, .agg #[.int .i64 o_0, .int .i64 o_1, .int .i64 o_2, .int .i64 o_3, .string o_4, .string o_5])] w := by
  exact block_spec Tryz.func18 Tryz.mixed stops_nil (Eq.mp (nodelaw_EventModel.B0_eq m0 o_0 o_1 o_2 o_3 o_4 o_5 w   R ) h)
theorem nodelaw_EventModel.sound (m0 : Option Addr) (o_0 o_1 o_2 o_3 : Int) (o_4 o_5 : ByteArray) (w : World) (R : Int → Option Addr → Nat → Nat → Option Addr → Nat → Nat → World → Prop) (h : nodelaw_EventModel.B0 m0 o_0 o_1 o_2 o_3 o_4 o_5 w R) : nodelaw_EventModel.Call m0 o_0 o_1 o_2 o_3 o_4 o_5 w R := by
  have hc := calls_of_block (args := #[.pointer m0, .agg #[.int .i64 o_0, .int .i64 o_1, .int .i64 o_2, .int .i64 o_3, .string o_4, .string o_5]]) Tryz.func18 (body := (Tryz.f18.body.getD .skip)) (by kernel_rfl) (by kernel_rfl) (args_slot _) (nodelaw_EventModel.B0_sound m0 o_0 o_1 o_2 o_3 o_4 o_5 w h)
  exact hc.mono fun e w' he => by
    obtain ⟨v, rfl, hv⟩ := he
    exact nodelaw_EventModel.RV_elim hv
def nodelaw_SameDid.B2 (d e : Nat) (i : Int) (t64 : Bool) (w : World) (N1 : Nat → Nat → Int → World → Prop)  (R : Bool → World → Prop) : Prop :=
  Bm t64 (
    R false w) (
    N1 d e (IntKind.i64.wrap (i + (1 : Int))) w)
theorem nodelaw_SameDid.B2_eq (d e : Nat) (i : Int) (t64 : Bool) (w : World) (N1 : Nat → Nat → Int → World → Prop)  (R : Bool → World → Prop)  :
    (
  Bm t64 (
    R false w) (
    N1 d e (IntKind.i64.wrap (i + (1 : Int))) w)) = kstep Tryz.prog 114 Tryz.f19.results.toList (Tryz.f19.body.getD .skip) (nodelaw_SameDid.RV R) (kvc Tryz.prog 114 Tryz.f19.results.toList (Tryz.f19.body.getD .skip) (nodelaw_SameDid.RV R) [([(0, [1, 1, 0, 1, 0, 0]), (2, [1, 1, 0, 1, 0, 0]), (1, [0]), (0, [1, 1, 1])], fun σ w => dK (slotOf σ 2) fun d_ => dK (slotOf σ 3) fun e_ => dI .i64 (slotOf σ 5) fun i_ => N1 d_ e_ i_ w)] 2000) [(0, [1, 1, 0, 1, 0, 0, 1, 0, 0, 1]), (1, [1]), (0, [1, 1, 0, 1, 0, 0, 1, 1]), (2, [1, 1, 0, 1, 0, 0]), (1, [0]), (0, [1, 1, 1])] [(2, .pointer (some ⟨d, 0, none⟩)), (3, .pointer (some ⟨e, 0, none⟩)), (5, .int .i64 i), (64, .bool t64)] w := by kernel_rfl
theorem nodelaw_SameDid.B2_sound {R : Bool → World → Prop} {N1 : Nat → Nat → Int → World → Prop} (hN1 : ∀ d e i w, N1 d e i w → KW Tryz.prog 19 114 (nodelaw_SameDid.RV R) ([(0, [1, 1, 0, 1, 0, 0]), (2, [1, 1, 0, 1, 0, 0]), (1, [0]), (0, [1, 1, 1])].map (toItem (Tryz.f19.body.getD .skip))) [(2, .pointer (some ⟨d, 0, none⟩)), (3, .pointer (some ⟨e, 0, none⟩)), (5, .int .i64 i)] w) (d e : Nat) (i : Int) (t64 : Bool) (w : World) (h : nodelaw_SameDid.B2 d e i t64 w N1  R) :
    KW Tryz.prog 19 114 (nodelaw_SameDid.RV R) ([(0, [1, 1, 0, 1, 0, 0, 1, 0, 0, 1]), (1, [1]), (0, [1, 1, 0, 1, 0, 0, 1, 1]), (2, [1, 1, 0, 1, 0, 0]), (1, [0]), (0, [1, 1, 1])].map (toItem (Tryz.f19.body.getD .skip))) [(2, .pointer (some ⟨d, 0, none⟩)), (3, .pointer (some ⟨e, 0, none⟩)), (5, .int .i64 i), (64, .bool t64)] w := by
  exact block_spec Tryz.func19 Tryz.mixed (stops_cons (fun σ w h => by
      obtain ⟨d_, e0, h⟩ := dK_elim h
      obtain ⟨e_, e1, h⟩ := dK_elim h
      obtain ⟨i_, e2, h⟩ := dI_elim h
      exact (hN1 d_ e_ i_ w h).weaken (Sub.cons (Sub.cons (Sub.cons (Sub.nil _) e2) e1) e0)) stops_nil) (Eq.mp (nodelaw_SameDid.B2_eq d e i t64 w N1  R ) h)
def nodelaw_SameDid.B3 (d e : Nat) (i : Int) (t99 : Bool) (w : World) (N2 : Nat → Nat → Int → World → Prop)  (R : Bool → World → Prop) : Prop :=
  Bm t99 (
    R false w) (
    LdL ⟨d, 2, none⟩ w.drew fun x101_b x101_l x101_c =>
    Pn x101_b fun a =>
    (0 ≤ i ∧ i < ((x101_l : Nat) : Int)) ∧
    LdI .i64 ((Addr.add a (i.toNat * 4)).add 2) w.drew fun x105_0 =>
    LdS (((Addr.add a (i.toNat * 4)).add 2).add 1) w.drew fun x105_1 =>
    LdL ⟨e, 2, none⟩ w.drew fun x107_b x107_l x107_c =>
    Pn x107_b fun a_1 =>
    (0 ≤ i ∧ i < ((x107_l : Nat) : Int)) ∧
    LdI .i64 ((Addr.add a_1 (i.toNat * 4)).add 2) w.drew fun x111_0 =>
    LdS (((Addr.add a_1 (i.toNat * 4)).add 2).add 1) w.drew fun x111_1 =>
    nodelaw_SameAns.Call x105_0 x105_1 x111_0 x111_1 w.drew fun r112 w1 =>
    Bm (!r112) (
      R false w1) (
      N2 d e (IntKind.i64.wrap (i + (1 : Int))) w1))
theorem nodelaw_SameDid.B3_eq (d e : Nat) (i : Int) (t99 : Bool) (w : World) (N2 : Nat → Nat → Int → World → Prop)  (R : Bool → World → Prop)  :
    (
  Bm t99 (
    R false w) (
    LdL ⟨d, 2, none⟩ w.drew fun x101_b x101_l x101_c =>
    Pn x101_b fun a =>
    (0 ≤ i ∧ i < ((x101_l : Nat) : Int)) ∧
    LdI .i64 ((Addr.add a (i.toNat * 4)).add 2) w.drew fun x105_0 =>
    LdS (((Addr.add a (i.toNat * 4)).add 2).add 1) w.drew fun x105_1 =>
    LdL ⟨e, 2, none⟩ w.drew fun x107_b x107_l x107_c =>
    Pn x107_b fun a_1 =>
    (0 ≤ i ∧ i < ((x107_l : Nat) : Int)) ∧
    LdI .i64 ((Addr.add a_1 (i.toNat * 4)).add 2) w.drew fun x111_0 =>
    LdS (((Addr.add a_1 (i.toNat * 4)).add 2).add 1) w.drew fun x111_1 =>
    nodelaw_SameAns.Call x105_0 x105_1 x111_0 x111_1 w.drew fun r112 w1 =>
    Bm (!r112) (
      R false w1) (
      N2 d e (IntKind.i64.wrap (i + (1 : Int))) w1))) = kstep Tryz.prog 114 Tryz.f19.results.toList (Tryz.f19.body.getD .skip) (nodelaw_SameDid.RV R) (kvc Tryz.prog 114 Tryz.f19.results.toList (Tryz.f19.body.getD .skip) (nodelaw_SameDid.RV R) [([(0, [1, 1, 1, 0, 1, 0, 0]), (2, [1, 1, 1, 0, 1, 0, 0]), (1, [2]), (0, [1, 1, 1, 1])], fun σ w => dK (slotOf σ 2) fun d_ => dK (slotOf σ 3) fun e_ => dI .i64 (slotOf σ 6) fun i_ => N2 d_ e_ i_ w)] 2000) [(0, [1, 1, 1, 0, 1, 0, 0, 1, 0, 0, 0, 1]), (0, [1, 1, 1, 0, 1, 0, 0, 1, 0, 0, 1]), (1, [3]), (0, [1, 1, 1, 0, 1, 0, 0, 1, 1]), (2, [1, 1, 1, 0, 1, 0, 0]), (1, [2]), (0, [1, 1, 1, 1])] [(2, .pointer (some ⟨d, 0, none⟩)), (3, .pointer (some ⟨e, 0, none⟩)), (6, .int .i64 i), (99, .bool t99)] w := by kernel_rfl
theorem nodelaw_SameDid.B3_sound {R : Bool → World → Prop} {N2 : Nat → Nat → Int → World → Prop} (hN2 : ∀ d e i w, N2 d e i w → KW Tryz.prog 19 114 (nodelaw_SameDid.RV R) ([(0, [1, 1, 1, 0, 1, 0, 0]), (2, [1, 1, 1, 0, 1, 0, 0]), (1, [2]), (0, [1, 1, 1, 1])].map (toItem (Tryz.f19.body.getD .skip))) [(2, .pointer (some ⟨d, 0, none⟩)), (3, .pointer (some ⟨e, 0, none⟩)), (6, .int .i64 i)] w) (d e : Nat) (i : Int) (t99 : Bool) (w : World) (h : nodelaw_SameDid.B3 d e i t99 w N2  R) :
    KW Tryz.prog 19 114 (nodelaw_SameDid.RV R) ([(0, [1, 1, 1, 0, 1, 0, 0, 1, 0, 0, 0, 1]), (0, [1, 1, 1, 0, 1, 0, 0, 1, 0, 0, 1]), (1, [3]), (0, [1, 1, 1, 0, 1, 0, 0, 1, 1]), (2, [1, 1, 1, 0, 1, 0, 0]), (1, [2]), (0, [1, 1, 1, 1])].map (toItem (Tryz.f19.body.getD .skip))) [(2, .pointer (some ⟨d, 0, none⟩)), (3, .pointer (some ⟨e, 0, none⟩)), (6, .int .i64 i), (99, .bool t99)] w := by
  exact block_spec Tryz.func19 Tryz.mixed (stops_cons (fun σ w h => by
      obtain ⟨d_, e0, h⟩ := dK_elim h
      obtain ⟨e_, e1, h⟩ := dK_elim h
      obtain ⟨i_, e2, h⟩ := dI_elim h
      exact (hN2 d_ e_ i_ w h).weaken (Sub.cons (Sub.cons (Sub.cons (Sub.nil _) e2) e1) e0)) stops_nil) (Eq.mp (nodelaw_SameDid.B3_eq d e i t99 w N2  R ) h)
def nodelaw_SameDid.L2b (d e : Nat) (i : Int) (w : World)  (N2 : Nat → Nat → Int → World → Prop) (R : Bool → World → Prop) : Prop :=
  LdL ⟨d, 2, none⟩ w fun x67_b x67_l x67_c =>
  Bm (decide (i < ((x67_l : Nat) : Int))) (
    LdL ⟨d, 2, none⟩ w.drew fun x73_b x73_l x73_c =>
    Pn x73_b fun a =>
    (0 ≤ i ∧ i < ((x73_l : Nat) : Int)) ∧
    LdI .i64 (Addr.add a (i.toNat * 4)) w.drew fun x77 =>
    LdL ⟨e, 2, none⟩ w.drew fun x79_b x79_l x79_c =>
    Pn x79_b fun a_1 =>
    (0 ≤ i ∧ i < ((x79_l : Nat) : Int)) ∧
    LdI .i64 (Addr.add a_1 (i.toNat * 4)) w.drew fun x83 =>
    Bm (x77 != x83) (
      nodelaw_SameDid.B3 d e i true w.drew N2 R) (
      LdL ⟨d, 2, none⟩ w.drew fun x87_b x87_l x87_c =>
      Pn x87_b fun a_2 =>
      (0 ≤ i ∧ i < ((x87_l : Nat) : Int)) ∧
      LdI .i64 ((Addr.add a_2 (i.toNat * 4)).add 1) w.drew fun x91 =>
      LdL ⟨e, 2, none⟩ w.drew fun x93_b x93_l x93_c =>
      Pn x93_b fun a_3 =>
      (0 ≤ i ∧ i < ((x93_l : Nat) : Int)) ∧
      LdI .i64 ((Addr.add a_3 (i.toNat * 4)).add 1) w.drew fun x97 =>
      nodelaw_SameDid.B3 d e i (x91 != x97) w.drew N2 R)) (
    R true w)
theorem nodelaw_SameDid.L2b_eq (d e : Nat) (i : Int) (w : World)  (N2 : Nat → Nat → Int → World → Prop) (R : Bool → World → Prop) (sB3 : Nat → Nat → Int → Bool → World → Prop) :
    (
  LdL ⟨d, 2, none⟩ w fun x67_b x67_l x67_c =>
  Bm (decide (i < ((x67_l : Nat) : Int))) (
    LdL ⟨d, 2, none⟩ w.drew fun x73_b x73_l x73_c =>
    Pn x73_b fun a =>
    (0 ≤ i ∧ i < ((x73_l : Nat) : Int)) ∧
    LdI .i64 (Addr.add a (i.toNat * 4)) w.drew fun x77 =>
    LdL ⟨e, 2, none⟩ w.drew fun x79_b x79_l x79_c =>
    Pn x79_b fun a_1 =>
    (0 ≤ i ∧ i < ((x79_l : Nat) : Int)) ∧
    LdI .i64 (Addr.add a_1 (i.toNat * 4)) w.drew fun x83 =>
    Bm (x77 != x83) (
      sB3 d e i true w.drew) (
      LdL ⟨d, 2, none⟩ w.drew fun x87_b x87_l x87_c =>
      Pn x87_b fun a_2 =>
      (0 ≤ i ∧ i < ((x87_l : Nat) : Int)) ∧
      LdI .i64 ((Addr.add a_2 (i.toNat * 4)).add 1) w.drew fun x91 =>
      LdL ⟨e, 2, none⟩ w.drew fun x93_b x93_l x93_c =>
      Pn x93_b fun a_3 =>
      (0 ≤ i ∧ i < ((x93_l : Nat) : Int)) ∧
      LdI .i64 ((Addr.add a_3 (i.toNat * 4)).add 1) w.drew fun x97 =>
      sB3 d e i (x91 != x97) w.drew)) (
    R true w)) = kstep Tryz.prog 114 Tryz.f19.results.toList (Tryz.f19.body.getD .skip) (nodelaw_SameDid.RV R) (kvc Tryz.prog 114 Tryz.f19.results.toList (Tryz.f19.body.getD .skip) (nodelaw_SameDid.RV R) [([(0, [1, 1, 1, 0, 1, 0, 0, 1, 0, 0, 0, 1]), (0, [1, 1, 1, 0, 1, 0, 0, 1, 0, 0, 1]), (1, [3]), (0, [1, 1, 1, 0, 1, 0, 0, 1, 1]), (2, [1, 1, 1, 0, 1, 0, 0]), (1, [2]), (0, [1, 1, 1, 1])], fun σ w => dK (slotOf σ 2) fun d_ => dK (slotOf σ 3) fun e_ => dI .i64 (slotOf σ 6) fun i_ => dB (slotOf σ 99) fun t99_ => sB3 d_ e_ i_ t99_ w)] 2000) [(0, [1, 1, 1, 0, 1, 0, 0]), (2, [1, 1, 1, 0, 1, 0, 0]), (1, [2]), (0, [1, 1, 1, 1])] [(2, .pointer (some ⟨d, 0, none⟩)), (3, .pointer (some ⟨e, 0, none⟩)), (6, .int .i64 i)] w := by kernel_rfl
theorem nodelaw_SameDid.L2b_sound {R : Bool → World → Prop} {N2 : Nat → Nat → Int → World → Prop} (hN2 : ∀ d e i w, N2 d e i w → KW Tryz.prog 19 114 (nodelaw_SameDid.RV R) ([(0, [1, 1, 1, 0, 1, 0, 0]), (2, [1, 1, 1, 0, 1, 0, 0]), (1, [2]), (0, [1, 1, 1, 1])].map (toItem (Tryz.f19.body.getD .skip))) [(2, .pointer (some ⟨d, 0, none⟩)), (3, .pointer (some ⟨e, 0, none⟩)), (6, .int .i64 i)] w) (d e : Nat) (i : Int) (w : World) (h : nodelaw_SameDid.L2b d e i w  N2 R) :
    KW Tryz.prog 19 114 (nodelaw_SameDid.RV R) ([(0, [1, 1, 1, 0, 1, 0, 0]), (2, [1, 1, 1, 0, 1, 0, 0]), (1, [2]), (0, [1, 1, 1, 1])].map (toItem (Tryz.f19.body.getD .skip))) [(2, .pointer (some ⟨d, 0, none⟩)), (3, .pointer (some ⟨e, 0, none⟩)), (6, .int .i64 i)] w := by
  exact block_spec Tryz.func19 Tryz.mixed (stops_cons (fun σ w h => by
      obtain ⟨d_, e0, h⟩ := dK_elim h
      obtain ⟨e_, e1, h⟩ := dK_elim h
      obtain ⟨i_, e2, h⟩ := dI_elim h
      obtain ⟨t99_, e3, h⟩ := dB_elim h
      exact (nodelaw_SameDid.B3_sound hN2 d_ e_ i_ t99_ w h).weaken (Sub.cons (Sub.cons (Sub.cons (Sub.cons (Sub.nil _) e3) e2) e1) e0)) stops_nil) (Eq.mp (nodelaw_SameDid.L2b_eq d e i w  N2 R (fun d_ e_ i_ t99_ w => nodelaw_SameDid.B3 d_ e_ i_ t99_ w N2 R)) h)
def nodelaw_SameDid.L2 (d e : Nat) (i : Int) (w : World)  (R : Bool → World → Prop) : Prop :=
  ∃ (I : Nat → Nat → Nat → Int → World → Prop) (m : Nat), I m d e i w ∧ ∀ m d e i w, I m d e i w → nodelaw_SameDid.L2b d e i w  (fun d' e' i' w' => ∃ m', m' < m ∧ I m' d' e' i' w') R
theorem nodelaw_SameDid.L2_sound {R : Bool → World → Prop}  (d e : Nat) (i : Int) (w : World) (h : nodelaw_SameDid.L2 d e i w  R) :
    KW Tryz.prog 19 114 (nodelaw_SameDid.RV R) ([(0, [1, 1, 1, 0, 1, 0, 0]), (2, [1, 1, 1, 0, 1, 0, 0]), (1, [2]), (0, [1, 1, 1, 1])].map (toItem (Tryz.f19.body.getD .skip))) [(2, .pointer (some ⟨d, 0, none⟩)), (3, .pointer (some ⟨e, 0, none⟩)), (6, .int .i64 i)] w := by
  obtain ⟨I, m, hBase, hr⟩ := h
  refine KW.loop (fun m σ w => ∃ (d e : Nat) (i : Int), σ = [(2, .pointer (some ⟨d, 0, none⟩)), (3, .pointer (some ⟨e, 0, none⟩)), (6, .int .i64 i)] ∧ I m d e i w) ?_ m _ w ⟨d, e, i, rfl, hBase⟩
  rintro m ih σ w ⟨d, e, i, rfl, hI⟩
  exact nodelaw_SameDid.L2b_sound  (N2 := fun d' e' i' w' => ∃ m', m' < m ∧ I m' d' e' i' w') (fun d' e' i' w' hx => by obtain ⟨m', hlt, hI'⟩ := hx; exact ih m' hlt _ w' ⟨d', e', i', rfl, hI'⟩) d e i w (hr m d e i w hI)
def nodelaw_SameDid.L1b (d e : Nat) (i : Int) (w : World)  (N1 : Nat → Nat → Int → World → Prop) (R : Bool → World → Prop) : Prop :=
  LdL ⟨d, 1, none⟩ w fun x32_b x32_l x32_c =>
  Bm (decide (i < ((x32_l : Nat) : Int))) (
    LdL ⟨d, 1, none⟩ w.drew fun x38_b x38_l x38_c =>
    Pn x38_b fun a =>
    (0 ≤ i ∧ i < ((x38_l : Nat) : Int)) ∧
    LdI .i64 (Addr.add a (i.toNat * 2)) w.drew fun x42 =>
    LdL ⟨e, 1, none⟩ w.drew fun x44_b x44_l x44_c =>
    Pn x44_b fun a_1 =>
    (0 ≤ i ∧ i < ((x44_l : Nat) : Int)) ∧
    LdI .i64 (Addr.add a_1 (i.toNat * 2)) w.drew fun x48 =>
    Bm (x42 != x48) (
      nodelaw_SameDid.B2 d e i true w.drew N1 R) (
      LdL ⟨d, 1, none⟩ w.drew fun x52_b x52_l x52_c =>
      Pn x52_b fun a_2 =>
      (0 ≤ i ∧ i < ((x52_l : Nat) : Int)) ∧
      LdS ((Addr.add a_2 (i.toNat * 2)).add 1) w.drew fun x56 =>
      LdL ⟨e, 1, none⟩ w.drew fun x58_b x58_l x58_c =>
      Pn x58_b fun a_3 =>
      (0 ≤ i ∧ i < ((x58_l : Nat) : Int)) ∧
      LdS ((Addr.add a_3 (i.toNat * 2)).add 1) w.drew fun x62 =>
      nodelaw_SameDid.B2 d e i (!(x56.toList == x62.toList)) w.drew N1 R)) (
    nodelaw_SameDid.L2 d e (0 : Int) w  R)
theorem nodelaw_SameDid.L1b_eq (d e : Nat) (i : Int) (w : World)  (N1 : Nat → Nat → Int → World → Prop) (R : Bool → World → Prop) (sB2 : Nat → Nat → Int → Bool → World → Prop) (sL2 : Nat → Nat → Int → World → Prop) :
    (
  LdL ⟨d, 1, none⟩ w fun x32_b x32_l x32_c =>
  Bm (decide (i < ((x32_l : Nat) : Int))) (
    LdL ⟨d, 1, none⟩ w.drew fun x38_b x38_l x38_c =>
    Pn x38_b fun a =>
    (0 ≤ i ∧ i < ((x38_l : Nat) : Int)) ∧
    LdI .i64 (Addr.add a (i.toNat * 2)) w.drew fun x42 =>
    LdL ⟨e, 1, none⟩ w.drew fun x44_b x44_l x44_c =>
    Pn x44_b fun a_1 =>
    (0 ≤ i ∧ i < ((x44_l : Nat) : Int)) ∧
    LdI .i64 (Addr.add a_1 (i.toNat * 2)) w.drew fun x48 =>
    Bm (x42 != x48) (
      sB2 d e i true w.drew) (
      LdL ⟨d, 1, none⟩ w.drew fun x52_b x52_l x52_c =>
      Pn x52_b fun a_2 =>
      (0 ≤ i ∧ i < ((x52_l : Nat) : Int)) ∧
      LdS ((Addr.add a_2 (i.toNat * 2)).add 1) w.drew fun x56 =>
      LdL ⟨e, 1, none⟩ w.drew fun x58_b x58_l x58_c =>
      Pn x58_b fun a_3 =>
      (0 ≤ i ∧ i < ((x58_l : Nat) : Int)) ∧
      LdS ((Addr.add a_3 (i.toNat * 2)).add 1) w.drew fun x62 =>
      sB2 d e i (!(x56.toList == x62.toList)) w.drew)) (
    sL2 d e (0 : Int) w)) = kstep Tryz.prog 114 Tryz.f19.results.toList (Tryz.f19.body.getD .skip) (nodelaw_SameDid.RV R) (kvc Tryz.prog 114 Tryz.f19.results.toList (Tryz.f19.body.getD .skip) (nodelaw_SameDid.RV R) [([(0, [1, 1, 0, 1, 0, 0, 1, 0, 0, 1]), (1, [1]), (0, [1, 1, 0, 1, 0, 0, 1, 1]), (2, [1, 1, 0, 1, 0, 0]), (1, [0]), (0, [1, 1, 1])], fun σ w => dK (slotOf σ 2) fun d_ => dK (slotOf σ 3) fun e_ => dI .i64 (slotOf σ 5) fun i_ => dB (slotOf σ 64) fun t64_ => sB2 d_ e_ i_ t64_ w),
    ([(0, [1, 1, 1, 0, 1, 0, 0]), (2, [1, 1, 1, 0, 1, 0, 0]), (1, [2]), (0, [1, 1, 1, 1])], fun σ w => dK (slotOf σ 2) fun d_ => dK (slotOf σ 3) fun e_ => dI .i64 (slotOf σ 6) fun i_ => sL2 d_ e_ i_ w)] 2000) [(0, [1, 1, 0, 1, 0, 0]), (2, [1, 1, 0, 1, 0, 0]), (1, [0]), (0, [1, 1, 1])] [(2, .pointer (some ⟨d, 0, none⟩)), (3, .pointer (some ⟨e, 0, none⟩)), (5, .int .i64 i)] w := by kernel_rfl
theorem nodelaw_SameDid.L1b_sound {R : Bool → World → Prop} {N1 : Nat → Nat → Int → World → Prop} (hN1 : ∀ d e i w, N1 d e i w → KW Tryz.prog 19 114 (nodelaw_SameDid.RV R) ([(0, [1, 1, 0, 1, 0, 0]), (2, [1, 1, 0, 1, 0, 0]), (1, [0]), (0, [1, 1, 1])].map (toItem (Tryz.f19.body.getD .skip))) [(2, .pointer (some ⟨d, 0, none⟩)), (3, .pointer (some ⟨e, 0, none⟩)), (5, .int .i64 i)] w) (d e : Nat) (i : Int) (w : World) (h : nodelaw_SameDid.L1b d e i w  N1 R) :
    KW Tryz.prog 19 114 (nodelaw_SameDid.RV R) ([(0, [1, 1, 0, 1, 0, 0]), (2, [1, 1, 0, 1, 0, 0]), (1, [0]), (0, [1, 1, 1])].map (toItem (Tryz.f19.body.getD .skip))) [(2, .pointer (some ⟨d, 0, none⟩)), (3, .pointer (some ⟨e, 0, none⟩)), (5, .int .i64 i)] w := by
  exact block_spec Tryz.func19 Tryz.mixed (stops_cons (fun σ w h => by
      obtain ⟨d_, e0, h⟩ := dK_elim h
      obtain ⟨e_, e1, h⟩ := dK_elim h
      obtain ⟨i_, e2, h⟩ := dI_elim h
      obtain ⟨t64_, e3, h⟩ := dB_elim h
      exact (nodelaw_SameDid.B2_sound hN1 d_ e_ i_ t64_ w h).weaken (Sub.cons (Sub.cons (Sub.cons (Sub.cons (Sub.nil _) e3) e2) e1) e0)) (stops_cons (fun σ w h => by
      obtain ⟨d_, e0, h⟩ := dK_elim h
      obtain ⟨e_, e1, h⟩ := dK_elim h
      obtain ⟨i_, e2, h⟩ := dI_elim h
      exact (nodelaw_SameDid.L2_sound  d_ e_ i_ w h).weaken (Sub.cons (Sub.cons (Sub.cons (Sub.nil _) e2) e1) e0)) stops_nil)) (Eq.mp (nodelaw_SameDid.L1b_eq d e i w  N1 R (fun d_ e_ i_ t64_ w => nodelaw_SameDid.B2 d_ e_ i_ t64_ w N1 R) (fun d_ e_ i_ w => nodelaw_SameDid.L2 d_ e_ i_ w  R)) h)
def nodelaw_SameDid.L1 (d e : Nat) (i : Int) (w : World)  (R : Bool → World → Prop) : Prop :=
  ∃ (I : Nat → Nat → Nat → Int → World → Prop) (m : Nat), I m d e i w ∧ ∀ m d e i w, I m d e i w → nodelaw_SameDid.L1b d e i w  (fun d' e' i' w' => ∃ m', m' < m ∧ I m' d' e' i' w') R
theorem nodelaw_SameDid.L1_sound {R : Bool → World → Prop}  (d e : Nat) (i : Int) (w : World) (h : nodelaw_SameDid.L1 d e i w  R) :
    KW Tryz.prog 19 114 (nodelaw_SameDid.RV R) ([(0, [1, 1, 0, 1, 0, 0]), (2, [1, 1, 0, 1, 0, 0]), (1, [0]), (0, [1, 1, 1])].map (toItem (Tryz.f19.body.getD .skip))) [(2, .pointer (some ⟨d, 0, none⟩)), (3, .pointer (some ⟨e, 0, none⟩)), (5, .int .i64 i)] w := by
  obtain ⟨I, m, hBase, hr⟩ := h
  refine KW.loop (fun m σ w => ∃ (d e : Nat) (i : Int), σ = [(2, .pointer (some ⟨d, 0, none⟩)), (3, .pointer (some ⟨e, 0, none⟩)), (5, .int .i64 i)] ∧ I m d e i w) ?_ m _ w ⟨d, e, i, rfl, hBase⟩
  rintro m ih σ w ⟨d, e, i, rfl, hI⟩
  exact nodelaw_SameDid.L1b_sound  (N1 := fun d' e' i' w' => ∃ m', m' < m ∧ I m' d' e' i' w') (fun d' e' i' w' hx => by obtain ⟨m', hlt, hI'⟩ := hx; exact ih m' hlt _ w' ⟨d', e', i', rfl, hI'⟩) d e i w (hr m d e i w hI)
def nodelaw_SameDid.B1 (d e : Nat) (t29 : Bool) (w : World)   (R : Bool → World → Prop) : Prop :=
  Bm t29 (
    R false w) (
    nodelaw_SameDid.L1 d e (0 : Int) w  R)
theorem nodelaw_SameDid.B1_eq (d e : Nat) (t29 : Bool) (w : World)   (R : Bool → World → Prop) (sL1 : Nat → Nat → Int → World → Prop) :
    (
  Bm t29 (
    R false w) (
    sL1 d e (0 : Int) w)) = kstep Tryz.prog 114 Tryz.f19.results.toList (Tryz.f19.body.getD .skip) (nodelaw_SameDid.RV R) (kvc Tryz.prog 114 Tryz.f19.results.toList (Tryz.f19.body.getD .skip) (nodelaw_SameDid.RV R) [([(0, [1, 1, 0, 1, 0, 0]), (2, [1, 1, 0, 1, 0, 0]), (1, [0]), (0, [1, 1, 1])], fun σ w => dK (slotOf σ 2) fun d_ => dK (slotOf σ 3) fun e_ => dI .i64 (slotOf σ 5) fun i_ => sL1 d_ e_ i_ w)] 2000) [(0, [1, 0, 1]), (0, [1, 1])] [(2, .pointer (some ⟨d, 0, none⟩)), (3, .pointer (some ⟨e, 0, none⟩)), (29, .bool t29)] w := by kernel_rfl
theorem nodelaw_SameDid.B1_sound {R : Bool → World → Prop}  (d e : Nat) (t29 : Bool) (w : World) (h : nodelaw_SameDid.B1 d e t29 w   R) :
    KW Tryz.prog 19 114 (nodelaw_SameDid.RV R) ([(0, [1, 0, 1]), (0, [1, 1])].map (toItem (Tryz.f19.body.getD .skip))) [(2, .pointer (some ⟨d, 0, none⟩)), (3, .pointer (some ⟨e, 0, none⟩)), (29, .bool t29)] w := by
  exact block_spec Tryz.func19 Tryz.mixed (stops_cons (fun σ w h => by
      obtain ⟨d_, e0, h⟩ := dK_elim h
      obtain ⟨e_, e1, h⟩ := dK_elim h
      obtain ⟨i_, e2, h⟩ := dI_elim h
      exact (nodelaw_SameDid.L1_sound  d_ e_ i_ w h).weaken (Sub.cons (Sub.cons (Sub.cons (Sub.nil _) e2) e1) e0)) stops_nil) (Eq.mp (nodelaw_SameDid.B1_eq d e t29 w   R (fun d_ e_ i_ w => nodelaw_SameDid.L1 d_ e_ i_ w  R)) h)
def nodelaw_SameDid.B0 (d_0 : Int) (d_1_b : Option Addr) (d_1_l d_1_c : Nat) (d_2_b : Option Addr) (d_2_l d_2_c : Nat) (e_0 : Int) (e_1_b : Option Addr) (e_1_l e_1_c : Nat) (e_2_b : Option Addr) (e_2_l e_2_c : Nat) (w : World)   (R : Bool → World → Prop) : Prop :=
  New (.cells #[.int .i64 d_0, .slice d_1_b d_1_l d_1_c, .slice d_2_b d_2_l d_2_c] 42) w fun d_ w1 =>
  New (.cells #[.int .i64 e_0, .slice e_1_b e_1_l e_1_c, .slice e_2_b e_2_l e_2_c] 42) w1 fun e_ w2 =>
  LdI .i64 ⟨d_, 0, none⟩ w2 fun x8 =>
  LdI .i64 ⟨e_, 0, none⟩ w2 fun x10 =>
  Bm (x8 != x10) (
    nodelaw_SameDid.B1 d_ e_ true w2  R) (
    LdL ⟨d_, 1, none⟩ w2 fun x14_b x14_l x14_c =>
    LdL ⟨e_, 1, none⟩ w2 fun x17_b x17_l x17_c =>
    Bm (((x14_l : Nat) : Int) != ((x17_l : Nat) : Int)) (
      nodelaw_SameDid.B1 d_ e_ true w2  R) (
      LdL ⟨d_, 2, none⟩ w2 fun x23_b x23_l x23_c =>
      LdL ⟨e_, 2, none⟩ w2 fun x26_b x26_l x26_c =>
      nodelaw_SameDid.B1 d_ e_ (((x23_l : Nat) : Int) != ((x26_l : Nat) : Int)) w2  R))
theorem nodelaw_SameDid.B0_eq (d_0 : Int) (d_1_b : Option Addr) (d_1_l d_1_c : Nat) (d_2_b : Option Addr) (d_2_l d_2_c : Nat) (e_0 : Int) (e_1_b : Option Addr) (e_1_l e_1_c : Nat) (e_2_b : Option Addr) (e_2_l e_2_c : Nat) (w : World)   (R : Bool → World → Prop) (sB1 : Nat → Nat → Bool → World → Prop) :
    (
  New (.cells #[.int .i64 d_0, .slice d_1_b d_1_l d_1_c, .slice d_2_b d_2_l d_2_c] 42) w fun d_ w1 =>
  New (.cells #[.int .i64 e_0, .slice e_1_b e_1_l e_1_c, .slice e_2_b e_2_l e_2_c] 42) w1 fun e_ w2 =>
  LdI .i64 ⟨d_, 0, none⟩ w2 fun x8 =>
  LdI .i64 ⟨e_, 0, none⟩ w2 fun x10 =>
  Bm (x8 != x10) (
    sB1 d_ e_ true w2) (
    LdL ⟨d_, 1, none⟩ w2 fun x14_b x14_l x14_c =>
    LdL ⟨e_, 1, none⟩ w2 fun x17_b x17_l x17_c =>
    Bm (((x14_l : Nat) : Int) != ((x17_l : Nat) : Int)) (
      sB1 d_ e_ true w2) (
      LdL ⟨d_, 2, none⟩ w2 fun x23_b x23_l x23_c =>
      LdL ⟨e_, 2, none⟩ w2 fun x26_b x26_l x26_c =>
      sB1 d_ e_ (((x23_l : Nat) : Int) != ((x26_l : Nat) : Int)) w2))) = kstep Tryz.prog 114 Tryz.f19.results.toList (Tryz.f19.body.getD .skip) (nodelaw_SameDid.RV R) (kvc Tryz.prog 114 Tryz.f19.results.toList (Tryz.f19.body.getD .skip) (nodelaw_SameDid.RV R) [([(0, [1, 0, 1]), (0, [1, 1])], fun σ w => dK (slotOf σ 2) fun d_ => dK (slotOf σ 3) fun e_ => dB (slotOf σ 29) fun t29_ => sB1 d_ e_ t29_ w)] 2000) [(0, [])] [(0, .agg #[.int .i64 d_0, .slice d_1_b d_1_l d_1_c, .slice d_2_b d_2_l d_2_c]), (1, .agg #[.int .i64 e_0, .slice e_1_b e_1_l e_1_c, .slice e_2_b e_2_l e_2_c])] w := by kernel_rfl
theorem nodelaw_SameDid.B0_sound {R : Bool → World → Prop}  (d_0 : Int) (d_1_b : Option Addr) (d_1_l d_1_c : Nat) (d_2_b : Option Addr) (d_2_l d_2_c : Nat) (e_0 : Int) (e_1_b : Option Addr) (e_1_l e_1_c : Nat) (e_2_b : Option Addr) (e_2_l e_2_c : Nat) (w : World) (h : nodelaw_SameDid.B0 d_0 d_1_b d_1_l d_1_c d_2_b d_2_l d_2_c e_0 e_1_b e_1_l e_1_c e_2_b e_2_l e_2_c w   R) :
    KW Tryz.prog 19 114 (nodelaw_SameDid.RV R) ([(0, [])].map (toItem (Tryz.f19.body.getD .skip))) [(0, .agg #[.int .i64 d_0, .slice d_1_b d_1_l d_1_c, .slice d_2_b d_2_l d_2_c]), (1, .agg #[.int .i64 e_0, .slice e_1_b e_1_l e_1_c, .slice e_2_b e_2_l e_2_c])] w := by
  exact block_spec Tryz.func19 Tryz.mixed (stops_cons (fun σ w h => by
      obtain ⟨d_, e0, h⟩ := dK_elim h
      obtain ⟨e_, e1, h⟩ := dK_elim h
      obtain ⟨t29_, e2, h⟩ := dB_elim h
      exact (nodelaw_SameDid.B1_sound  d_ e_ t29_ w h).weaken (Sub.cons (Sub.cons (Sub.cons (Sub.nil _) e2) e1) e0)) stops_nil) (Eq.mp (nodelaw_SameDid.B0_eq d_0 d_1_b d_1_l d_1_c d_2_b d_2_l d_2_c e_0 e_1_b e_1_l e_1_c e_2_b e_2_l e_2_c w   R (fun d_ e_ t29_ w => nodelaw_SameDid.B1 d_ e_ t29_ w  R)) h)
theorem nodelaw_SameDid.sound (d_0 : Int) (d_1_b : Option Addr) (d_1_l d_1_c : Nat) (d_2_b : Option Addr) (d_2_l d_2_c : Nat) (e_0 : Int) (e_1_b : Option Addr) (e_1_l e_1_c : Nat) (e_2_b : Option Addr) (e_2_l e_2_c : Nat) (w : World) (R : Bool → World → Prop) (h : nodelaw_SameDid.B0 d_0 d_1_b d_1_l d_1_c d_2_b d_2_l d_2_c e_0 e_1_b e_1_l e_1_c e_2_b e_2_l e_2_c w R) : nodelaw_SameDid.Call d_0 d_1_b d_1_l d_1_c d_2_b d_2_l d_2_c e_0 e_1_b e_1_l e_1_c e_2_b e_2_l e_2_c w R := by
  have hc := calls_of_block (args := #[.agg #[.int .i64 d_0, .slice d_1_b d_1_l d_1_c, .slice d_2_b d_2_l d_2_c], .agg #[.int .i64 e_0, .slice e_1_b e_1_l e_1_c, .slice e_2_b e_2_l e_2_c]]) Tryz.func19 (body := (Tryz.f19.body.getD .skip)) (by kernel_rfl) (by kernel_rfl) (args_slot _) (nodelaw_SameDid.B0_sound d_0 d_1_b d_1_l d_1_c d_2_b d_2_l d_2_c e_0 e_1_b e_1_l e_1_c e_2_b e_2_l e_2_c w h)
  exact hc.mono fun e w' he => by
    obtain ⟨v, rfl, hv⟩ := he
    exact nodelaw_SameDid.RV_elim hv
def nodelaw_Untouched.B1 (mine_b : Option Addr) (mine_l mine_c : Nat) (j : Int) (d : Nat) (i : Int) (t40 : Bool) (w : World) (N1 : Option Addr → Nat → Nat → Int → World → Prop) (N2 : Option Addr → Nat → Nat → Int → Nat → Int → World → Prop)  (R : Bool → World → Prop) : Prop :=
  Bm t40 (
    R false w) (
    N2 mine_b mine_l mine_c j d (IntKind.i64.wrap (i + (1 : Int))) w)
theorem nodelaw_Untouched.B1_eq (mine_b : Option Addr) (mine_l mine_c : Nat) (j : Int) (d : Nat) (i : Int) (t40 : Bool) (w : World) (N1 : Option Addr → Nat → Nat → Int → World → Prop) (N2 : Option Addr → Nat → Nat → Int → Nat → Int → World → Prop)  (R : Bool → World → Prop)  :
    (
  Bm t40 (
    R false w) (
    N2 mine_b mine_l mine_c j d (IntKind.i64.wrap (i + (1 : Int))) w)) = kstep Tryz.prog 73 Tryz.f20.results.toList (Tryz.f20.body.getD .skip) (nodelaw_Untouched.RV R) (kvc Tryz.prog 73 Tryz.f20.results.toList (Tryz.f20.body.getD .skip) (nodelaw_Untouched.RV R) [([(0, [1, 0, 1, 0, 0, 1, 0, 0, 1, 0, 1, 0, 0]), (2, [1, 0, 1, 0, 0, 1, 0, 0, 1, 0, 1, 0, 0]), (1, [2]), (0, [1, 0, 1, 0, 0, 1, 0, 0, 1, 1]), (1, [1]), (0, [1, 0, 1, 0, 0, 1, 1]), (2, [1, 0, 1, 0, 0]), (1, [0]), (0, [1, 1])], fun σ w => dL (slotOf σ 0) fun mine_b_ mine_l_ mine_c_ => dI .i64 (slotOf σ 3) fun j_ => dK (slotOf σ 4) fun d_ => dI .i64 (slotOf σ 5) fun i_ => N2 mine_b_ mine_l_ mine_c_ j_ d_ i_ w)] 2000) [(0, [1, 0, 1, 0, 0, 1, 0, 0, 1, 0, 1, 0, 0, 1, 0, 0, 1]), (1, [3]), (0, [1, 0, 1, 0, 0, 1, 0, 0, 1, 0, 1, 0, 0, 1, 1]), (2, [1, 0, 1, 0, 0, 1, 0, 0, 1, 0, 1, 0, 0]), (1, [2]), (0, [1, 0, 1, 0, 0, 1, 0, 0, 1, 1]), (1, [1]), (0, [1, 0, 1, 0, 0, 1, 1]), (2, [1, 0, 1, 0, 0]), (1, [0]), (0, [1, 1])] [(0, .slice mine_b mine_l mine_c), (3, .int .i64 j), (4, .pointer (some ⟨d, 0, none⟩)), (5, .int .i64 i), (40, .bool t40)] w := by kernel_rfl
theorem nodelaw_Untouched.B1_sound {R : Bool → World → Prop} {N1 : Option Addr → Nat → Nat → Int → World → Prop} (hN1 : ∀ mine_b mine_l mine_c j w, N1 mine_b mine_l mine_c j w → KW Tryz.prog 20 73 (nodelaw_Untouched.RV R) ([(0, [1, 0, 1, 0, 0]), (2, [1, 0, 1, 0, 0]), (1, [0]), (0, [1, 1])].map (toItem (Tryz.f20.body.getD .skip))) [(0, .slice mine_b mine_l mine_c), (3, .int .i64 j)] w) {N2 : Option Addr → Nat → Nat → Int → Nat → Int → World → Prop} (hN2 : ∀ mine_b mine_l mine_c j d i w, N2 mine_b mine_l mine_c j d i w → KW Tryz.prog 20 73 (nodelaw_Untouched.RV R) ([(0, [1, 0, 1, 0, 0, 1, 0, 0, 1, 0, 1, 0, 0]), (2, [1, 0, 1, 0, 0, 1, 0, 0, 1, 0, 1, 0, 0]), (1, [2]), (0, [1, 0, 1, 0, 0, 1, 0, 0, 1, 1]), (1, [1]), (0, [1, 0, 1, 0, 0, 1, 1]), (2, [1, 0, 1, 0, 0]), (1, [0]), (0, [1, 1])].map (toItem (Tryz.f20.body.getD .skip))) [(0, .slice mine_b mine_l mine_c), (3, .int .i64 j), (4, .pointer (some ⟨d, 0, none⟩)), (5, .int .i64 i)] w) (mine_b : Option Addr) (mine_l mine_c : Nat) (j : Int) (d : Nat) (i : Int) (t40 : Bool) (w : World) (h : nodelaw_Untouched.B1 mine_b mine_l mine_c j d i t40 w N1 N2  R) :
    KW Tryz.prog 20 73 (nodelaw_Untouched.RV R) ([(0, [1, 0, 1, 0, 0, 1, 0, 0, 1, 0, 1, 0, 0, 1, 0, 0, 1]), (1, [3]), (0, [1, 0, 1, 0, 0, 1, 0, 0, 1, 0, 1, 0, 0, 1, 1]), (2, [1, 0, 1, 0, 0, 1, 0, 0, 1, 0, 1, 0, 0]), (1, [2]), (0, [1, 0, 1, 0, 0, 1, 0, 0, 1, 1]), (1, [1]), (0, [1, 0, 1, 0, 0, 1, 1]), (2, [1, 0, 1, 0, 0]), (1, [0]), (0, [1, 1])].map (toItem (Tryz.f20.body.getD .skip))) [(0, .slice mine_b mine_l mine_c), (3, .int .i64 j), (4, .pointer (some ⟨d, 0, none⟩)), (5, .int .i64 i), (40, .bool t40)] w := by
  exact block_spec Tryz.func20 Tryz.mixed (stops_cons (fun σ w h => by
      obtain ⟨mine_b_, mine_l_, mine_c_, e0, h⟩ := dL_elim h
      obtain ⟨j_, e1, h⟩ := dI_elim h
      obtain ⟨d_, e2, h⟩ := dK_elim h
      obtain ⟨i_, e3, h⟩ := dI_elim h
      exact (hN2 mine_b_ mine_l_ mine_c_ j_ d_ i_ w h).weaken (Sub.cons (Sub.cons (Sub.cons (Sub.cons (Sub.nil _) e3) e2) e1) e0)) stops_nil) (Eq.mp (nodelaw_Untouched.B1_eq mine_b mine_l mine_c j d i t40 w N1 N2  R ) h)
def nodelaw_Untouched.B2 (mine_b : Option Addr) (mine_l mine_c : Nat) (j : Int) (d : Nat) (i : Int) (t72 : Bool) (w : World) (N1 : Option Addr → Nat → Nat → Int → World → Prop) (N3 : Option Addr → Nat → Nat → Int → Nat → Int → World → Prop)  (R : Bool → World → Prop) : Prop :=
  Bm t72 (
    R false w) (
    N3 mine_b mine_l mine_c j d (IntKind.i64.wrap (i + (1 : Int))) w)
theorem nodelaw_Untouched.B2_eq (mine_b : Option Addr) (mine_l mine_c : Nat) (j : Int) (d : Nat) (i : Int) (t72 : Bool) (w : World) (N1 : Option Addr → Nat → Nat → Int → World → Prop) (N3 : Option Addr → Nat → Nat → Int → Nat → Int → World → Prop)  (R : Bool → World → Prop)  :
    (
  Bm t72 (
    R false w) (
    N3 mine_b mine_l mine_c j d (IntKind.i64.wrap (i + (1 : Int))) w)) = kstep Tryz.prog 73 Tryz.f20.results.toList (Tryz.f20.body.getD .skip) (nodelaw_Untouched.RV R) (kvc Tryz.prog 73 Tryz.f20.results.toList (Tryz.f20.body.getD .skip) (nodelaw_Untouched.RV R) [([(0, [1, 0, 1, 0, 0, 1, 0, 0, 1, 1, 1, 0, 0]), (2, [1, 0, 1, 0, 0, 1, 0, 0, 1, 1, 1, 0, 0]), (1, [4]), (1, [1]), (0, [1, 0, 1, 0, 0, 1, 1]), (2, [1, 0, 1, 0, 0]), (1, [0]), (0, [1, 1])], fun σ w => dL (slotOf σ 0) fun mine_b_ mine_l_ mine_c_ => dI .i64 (slotOf σ 3) fun j_ => dK (slotOf σ 4) fun d_ => dI .i64 (slotOf σ 6) fun i_ => N3 mine_b_ mine_l_ mine_c_ j_ d_ i_ w)] 2000) [(0, [1, 0, 1, 0, 0, 1, 0, 0, 1, 1, 1, 0, 0, 1, 0, 0, 1, 1]), (1, [5]), (0, [1, 0, 1, 0, 0, 1, 0, 0, 1, 1, 1, 0, 0, 1, 1]), (2, [1, 0, 1, 0, 0, 1, 0, 0, 1, 1, 1, 0, 0]), (1, [4]), (1, [1]), (0, [1, 0, 1, 0, 0, 1, 1]), (2, [1, 0, 1, 0, 0]), (1, [0]), (0, [1, 1])] [(0, .slice mine_b mine_l mine_c), (3, .int .i64 j), (4, .pointer (some ⟨d, 0, none⟩)), (6, .int .i64 i), (72, .bool t72)] w := by kernel_rfl
theorem nodelaw_Untouched.B2_sound {R : Bool → World → Prop} {N1 : Option Addr → Nat → Nat → Int → World → Prop} (hN1 : ∀ mine_b mine_l mine_c j w, N1 mine_b mine_l mine_c j w → KW Tryz.prog 20 73 (nodelaw_Untouched.RV R) ([(0, [1, 0, 1, 0, 0]), (2, [1, 0, 1, 0, 0]), (1, [0]), (0, [1, 1])].map (toItem (Tryz.f20.body.getD .skip))) [(0, .slice mine_b mine_l mine_c), (3, .int .i64 j)] w) {N3 : Option Addr → Nat → Nat → Int → Nat → Int → World → Prop} (hN3 : ∀ mine_b mine_l mine_c j d i w, N3 mine_b mine_l mine_c j d i w → KW Tryz.prog 20 73 (nodelaw_Untouched.RV R) ([(0, [1, 0, 1, 0, 0, 1, 0, 0, 1, 1, 1, 0, 0]), (2, [1, 0, 1, 0, 0, 1, 0, 0, 1, 1, 1, 0, 0]), (1, [4]), (1, [1]), (0, [1, 0, 1, 0, 0, 1, 1]), (2, [1, 0, 1, 0, 0]), (1, [0]), (0, [1, 1])].map (toItem (Tryz.f20.body.getD .skip))) [(0, .slice mine_b mine_l mine_c), (3, .int .i64 j), (4, .pointer (some ⟨d, 0, none⟩)), (6, .int .i64 i)] w) (mine_b : Option Addr) (mine_l mine_c : Nat) (j : Int) (d : Nat) (i : Int) (t72 : Bool) (w : World) (h : nodelaw_Untouched.B2 mine_b mine_l mine_c j d i t72 w N1 N3  R) :
    KW Tryz.prog 20 73 (nodelaw_Untouched.RV R) ([(0, [1, 0, 1, 0, 0, 1, 0, 0, 1, 1, 1, 0, 0, 1, 0, 0, 1, 1]), (1, [5]), (0, [1, 0, 1, 0, 0, 1, 0, 0, 1, 1, 1, 0, 0, 1, 1]), (2, [1, 0, 1, 0, 0, 1, 0, 0, 1, 1, 1, 0, 0]), (1, [4]), (1, [1]), (0, [1, 0, 1, 0, 0, 1, 1]), (2, [1, 0, 1, 0, 0]), (1, [0]), (0, [1, 1])].map (toItem (Tryz.f20.body.getD .skip))) [(0, .slice mine_b mine_l mine_c), (3, .int .i64 j), (4, .pointer (some ⟨d, 0, none⟩)), (6, .int .i64 i), (72, .bool t72)] w := by
  exact block_spec Tryz.func20 Tryz.mixed (stops_cons (fun σ w h => by
      obtain ⟨mine_b_, mine_l_, mine_c_, e0, h⟩ := dL_elim h
      obtain ⟨j_, e1, h⟩ := dI_elim h
      obtain ⟨d_, e2, h⟩ := dK_elim h
      obtain ⟨i_, e3, h⟩ := dI_elim h
      exact (hN3 mine_b_ mine_l_ mine_c_ j_ d_ i_ w h).weaken (Sub.cons (Sub.cons (Sub.cons (Sub.cons (Sub.nil _) e3) e2) e1) e0)) stops_nil) (Eq.mp (nodelaw_Untouched.B2_eq mine_b mine_l mine_c j d i t72 w N1 N3  R ) h)
def nodelaw_Untouched.L3b (mine_b : Option Addr) (mine_l mine_c : Nat) (j : Int) (d : Nat) (i : Int) (w : World) (N1 : Option Addr → Nat → Nat → Int → World → Prop) (N3 : Option Addr → Nat → Nat → Int → Nat → Int → World → Prop) (R : Bool → World → Prop) : Prop :=
  LdL ⟨d, 2, none⟩ w fun x43_b x43_l x43_c =>
  Bm (decide (i < ((x43_l : Nat) : Int))) (
    LdL ⟨d, 2, none⟩ w fun x49_b x49_l x49_c =>
    Pn x49_b fun a =>
    (0 ≤ i ∧ i < ((x49_l : Nat) : Int)) ∧
    LdI .i64 (Addr.add a (i.toNat * 4)) w fun x52_0 =>
    LdI .i64 ((Addr.add a (i.toNat * 4)).add 1) w fun x52_1 =>
    LdI .i64 ((Addr.add a (i.toNat * 4)).add 2) w fun x52_2 =>
    LdS ((Addr.add a (i.toNat * 4)).add 3) w fun x52_3 =>
    New (.cells #[.int .i64 (0 : Int), .int .i64 (0 : Int), .int .i64 (0 : Int), .string (ByteArray.mk #[])] 95) w fun r_ w1 =>
    Sts [.int .i64 x52_0, .int .i64 x52_1, .int .i64 x52_2, .string x52_3] ⟨r_, 0, none⟩ 0 w1 fun w2 =>
    LdI .i64 ⟨r_, 0, none⟩ w2 fun x54 =>
    Bm (x54 != (-7 : Int)) (
      nodelaw_Untouched.B2 mine_b mine_l mine_c j d i true w2 N1 N3 R) (
      LdI .i64 ⟨r_, 1, none⟩ w2 fun x58 =>
      Bm (x58 != (0 : Int)) (
        nodelaw_Untouched.B2 mine_b mine_l mine_c j d i true w2 N1 N3 R) (
        LdI .i64 ⟨r_, 2, none⟩ w2 fun x64 =>
        Bm (x64 != (0 : Int)) (
          nodelaw_Untouched.B2 mine_b mine_l mine_c j d i true w2 N1 N3 R) (
          LdS ⟨r_, 3, none⟩ w2 fun x70 =>
          nodelaw_Untouched.B2 mine_b mine_l mine_c j d i (!(x70.toList == (ByteArray.mk #[]).toList)) w2 N1 N3 R)))) (
    N1 mine_b mine_l mine_c (IntKind.i64.wrap (j + (1 : Int))) w)
theorem nodelaw_Untouched.L3b_eq (mine_b : Option Addr) (mine_l mine_c : Nat) (j : Int) (d : Nat) (i : Int) (w : World) (N1 : Option Addr → Nat → Nat → Int → World → Prop) (N3 : Option Addr → Nat → Nat → Int → Nat → Int → World → Prop) (R : Bool → World → Prop) (sB2 : Option Addr → Nat → Nat → Int → Nat → Int → Bool → World → Prop) :
    (
  LdL ⟨d, 2, none⟩ w fun x43_b x43_l x43_c =>
  Bm (decide (i < ((x43_l : Nat) : Int))) (
    LdL ⟨d, 2, none⟩ w fun x49_b x49_l x49_c =>
    Pn x49_b fun a =>
    (0 ≤ i ∧ i < ((x49_l : Nat) : Int)) ∧
    LdI .i64 (Addr.add a (i.toNat * 4)) w fun x52_0 =>
    LdI .i64 ((Addr.add a (i.toNat * 4)).add 1) w fun x52_1 =>
    LdI .i64 ((Addr.add a (i.toNat * 4)).add 2) w fun x52_2 =>
    LdS ((Addr.add a (i.toNat * 4)).add 3) w fun x52_3 =>
    New (.cells #[.int .i64 (0 : Int), .int .i64 (0 : Int), .int .i64 (0 : Int), .string (ByteArray.mk #[])] 95) w fun r_ w1 =>
    Sts [.int .i64 x52_0, .int .i64 x52_1, .int .i64 x52_2, .string x52_3] ⟨r_, 0, none⟩ 0 w1 fun w2 =>
    LdI .i64 ⟨r_, 0, none⟩ w2 fun x54 =>
    Bm (x54 != (-7 : Int)) (
      sB2 mine_b mine_l mine_c j d i true w2) (
      LdI .i64 ⟨r_, 1, none⟩ w2 fun x58 =>
      Bm (x58 != (0 : Int)) (
        sB2 mine_b mine_l mine_c j d i true w2) (
        LdI .i64 ⟨r_, 2, none⟩ w2 fun x64 =>
        Bm (x64 != (0 : Int)) (
          sB2 mine_b mine_l mine_c j d i true w2) (
          LdS ⟨r_, 3, none⟩ w2 fun x70 =>
          sB2 mine_b mine_l mine_c j d i (!(x70.toList == (ByteArray.mk #[]).toList)) w2)))) (
    N1 mine_b mine_l mine_c (IntKind.i64.wrap (j + (1 : Int))) w)) = kstep Tryz.prog 73 Tryz.f20.results.toList (Tryz.f20.body.getD .skip) (nodelaw_Untouched.RV R) (kvc Tryz.prog 73 Tryz.f20.results.toList (Tryz.f20.body.getD .skip) (nodelaw_Untouched.RV R) [([(0, [1, 0, 1, 0, 0, 1, 0, 0, 1, 1, 1, 0, 0, 1, 0, 0, 1, 1]), (1, [5]), (0, [1, 0, 1, 0, 0, 1, 0, 0, 1, 1, 1, 0, 0, 1, 1]), (2, [1, 0, 1, 0, 0, 1, 0, 0, 1, 1, 1, 0, 0]), (1, [4]), (1, [1]), (0, [1, 0, 1, 0, 0, 1, 1]), (2, [1, 0, 1, 0, 0]), (1, [0]), (0, [1, 1])], fun σ w => dL (slotOf σ 0) fun mine_b_ mine_l_ mine_c_ => dI .i64 (slotOf σ 3) fun j_ => dK (slotOf σ 4) fun d_ => dI .i64 (slotOf σ 6) fun i_ => dB (slotOf σ 72) fun t72_ => sB2 mine_b_ mine_l_ mine_c_ j_ d_ i_ t72_ w),
    ([(0, [1, 0, 1, 0, 0]), (2, [1, 0, 1, 0, 0]), (1, [0]), (0, [1, 1])], fun σ w => dL (slotOf σ 0) fun mine_b_ mine_l_ mine_c_ => dI .i64 (slotOf σ 3) fun j_ => N1 mine_b_ mine_l_ mine_c_ j_ w)] 2000) [(0, [1, 0, 1, 0, 0, 1, 0, 0, 1, 1, 1, 0, 0]), (2, [1, 0, 1, 0, 0, 1, 0, 0, 1, 1, 1, 0, 0]), (1, [4]), (1, [1]), (0, [1, 0, 1, 0, 0, 1, 1]), (2, [1, 0, 1, 0, 0]), (1, [0]), (0, [1, 1])] [(0, .slice mine_b mine_l mine_c), (3, .int .i64 j), (4, .pointer (some ⟨d, 0, none⟩)), (6, .int .i64 i)] w := by kernel_rfl
theorem nodelaw_Untouched.L3b_sound {R : Bool → World → Prop} {N1 : Option Addr → Nat → Nat → Int → World → Prop} (hN1 : ∀ mine_b mine_l mine_c j w, N1 mine_b mine_l mine_c j w → KW Tryz.prog 20 73 (nodelaw_Untouched.RV R) ([(0, [1, 0, 1, 0, 0]), (2, [1, 0, 1, 0, 0]), (1, [0]), (0, [1, 1])].map (toItem (Tryz.f20.body.getD .skip))) [(0, .slice mine_b mine_l mine_c), (3, .int .i64 j)] w) {N3 : Option Addr → Nat → Nat → Int → Nat → Int → World → Prop} (hN3 : ∀ mine_b mine_l mine_c j d i w, N3 mine_b mine_l mine_c j d i w → KW Tryz.prog 20 73 (nodelaw_Untouched.RV R) ([(0, [1, 0, 1, 0, 0, 1, 0, 0, 1, 1, 1, 0, 0]), (2, [1, 0, 1, 0, 0, 1, 0, 0, 1, 1, 1, 0, 0]), (1, [4]), (1, [1]), (0, [1, 0, 1, 0, 0, 1, 1]), (2, [1, 0, 1, 0, 0]), (1, [0]), (0, [1, 1])].map (toItem (Tryz.f20.body.getD .skip))) [(0, .slice mine_b mine_l mine_c), (3, .int .i64 j), (4, .pointer (some ⟨d, 0, none⟩)), (6, .int .i64 i)] w) (mine_b : Option Addr) (mine_l mine_c : Nat) (j : Int) (d : Nat) (i : Int) (w : World) (h : nodelaw_Untouched.L3b mine_b mine_l mine_c j d i w N1 N3 R) :
    KW Tryz.prog 20 73 (nodelaw_Untouched.RV R) ([(0, [1, 0, 1, 0, 0, 1, 0, 0, 1, 1, 1, 0, 0]), (2, [1, 0, 1, 0, 0, 1, 0, 0, 1, 1, 1, 0, 0]), (1, [4]), (1, [1]), (0, [1, 0, 1, 0, 0, 1, 1]), (2, [1, 0, 1, 0, 0]), (1, [0]), (0, [1, 1])].map (toItem (Tryz.f20.body.getD .skip))) [(0, .slice mine_b mine_l mine_c), (3, .int .i64 j), (4, .pointer (some ⟨d, 0, none⟩)), (6, .int .i64 i)] w := by
  exact block_spec Tryz.func20 Tryz.mixed (stops_cons (fun σ w h => by
      obtain ⟨mine_b_, mine_l_, mine_c_, e0, h⟩ := dL_elim h
      obtain ⟨j_, e1, h⟩ := dI_elim h
      obtain ⟨d_, e2, h⟩ := dK_elim h
      obtain ⟨i_, e3, h⟩ := dI_elim h
      obtain ⟨t72_, e4, h⟩ := dB_elim h
      exact (nodelaw_Untouched.B2_sound hN1 hN3 mine_b_ mine_l_ mine_c_ j_ d_ i_ t72_ w h).weaken (Sub.cons (Sub.cons (Sub.cons (Sub.cons (Sub.cons (Sub.nil _) e4) e3) e2) e1) e0)) (stops_cons (fun σ w h => by
      obtain ⟨mine_b_, mine_l_, mine_c_, e0, h⟩ := dL_elim h
      obtain ⟨j_, e1, h⟩ := dI_elim h
      exact (hN1 mine_b_ mine_l_ mine_c_ j_ w h).weaken (Sub.cons (Sub.cons (Sub.nil _) e1) e0)) stops_nil)) (Eq.mp (nodelaw_Untouched.L3b_eq mine_b mine_l mine_c j d i w N1 N3 R (fun mine_b_ mine_l_ mine_c_ j_ d_ i_ t72_ w => nodelaw_Untouched.B2 mine_b_ mine_l_ mine_c_ j_ d_ i_ t72_ w N1 N3 R)) h)
def nodelaw_Untouched.L3 (mine_b : Option Addr) (mine_l mine_c : Nat) (j : Int) (d : Nat) (i : Int) (w : World) (N1 : Option Addr → Nat → Nat → Int → World → Prop) (R : Bool → World → Prop) : Prop :=
  ∃ (I : Nat → Option Addr → Nat → Nat → Int → Nat → Int → World → Prop) (m : Nat), I m mine_b mine_l mine_c j d i w ∧ ∀ m mine_b mine_l mine_c j d i w, I m mine_b mine_l mine_c j d i w → nodelaw_Untouched.L3b mine_b mine_l mine_c j d i w N1 (fun mine_b' mine_l' mine_c' j' d' i' w' => ∃ m', m' < m ∧ I m' mine_b' mine_l' mine_c' j' d' i' w') R
theorem nodelaw_Untouched.L3_sound {R : Bool → World → Prop} {N1 : Option Addr → Nat → Nat → Int → World → Prop} (hN1 : ∀ mine_b mine_l mine_c j w, N1 mine_b mine_l mine_c j w → KW Tryz.prog 20 73 (nodelaw_Untouched.RV R) ([(0, [1, 0, 1, 0, 0]), (2, [1, 0, 1, 0, 0]), (1, [0]), (0, [1, 1])].map (toItem (Tryz.f20.body.getD .skip))) [(0, .slice mine_b mine_l mine_c), (3, .int .i64 j)] w) (mine_b : Option Addr) (mine_l mine_c : Nat) (j : Int) (d : Nat) (i : Int) (w : World) (h : nodelaw_Untouched.L3 mine_b mine_l mine_c j d i w N1 R) :
    KW Tryz.prog 20 73 (nodelaw_Untouched.RV R) ([(0, [1, 0, 1, 0, 0, 1, 0, 0, 1, 1, 1, 0, 0]), (2, [1, 0, 1, 0, 0, 1, 0, 0, 1, 1, 1, 0, 0]), (1, [4]), (1, [1]), (0, [1, 0, 1, 0, 0, 1, 1]), (2, [1, 0, 1, 0, 0]), (1, [0]), (0, [1, 1])].map (toItem (Tryz.f20.body.getD .skip))) [(0, .slice mine_b mine_l mine_c), (3, .int .i64 j), (4, .pointer (some ⟨d, 0, none⟩)), (6, .int .i64 i)] w := by
  obtain ⟨I, m, hBase, hr⟩ := h
  refine KW.loop (fun m σ w => ∃ (mine_b : Option Addr) (mine_l mine_c : Nat) (j : Int) (d : Nat) (i : Int), σ = [(0, .slice mine_b mine_l mine_c), (3, .int .i64 j), (4, .pointer (some ⟨d, 0, none⟩)), (6, .int .i64 i)] ∧ I m mine_b mine_l mine_c j d i w) ?_ m _ w ⟨mine_b, mine_l, mine_c, j, d, i, rfl, hBase⟩
  rintro m ih σ w ⟨mine_b, mine_l, mine_c, j, d, i, rfl, hI⟩
  exact nodelaw_Untouched.L3b_sound hN1 (N3 := fun mine_b' mine_l' mine_c' j' d' i' w' => ∃ m', m' < m ∧ I m' mine_b' mine_l' mine_c' j' d' i' w') (fun mine_b' mine_l' mine_c' j' d' i' w' hx => by obtain ⟨m', hlt, hI'⟩ := hx; exact ih m' hlt _ w' ⟨mine_b', mine_l', mine_c', j', d', i', rfl, hI'⟩) mine_b mine_l mine_c j d i w (hr m mine_b mine_l mine_c j d i w hI)
def nodelaw_Untouched.L2b (mine_b : Option Addr) (mine_l mine_c : Nat) (j : Int) (d : Nat) (i : Int) (w : World) (N1 : Option Addr → Nat → Nat → Int → World → Prop) (N2 : Option Addr → Nat → Nat → Int → Nat → Int → World → Prop) (R : Bool → World → Prop) : Prop :=
  LdL ⟨d, 1, none⟩ w fun x20_b x20_l x20_c =>
  Bm (decide (i < ((x20_l : Nat) : Int))) (
    LdL ⟨d, 1, none⟩ w fun x26_b x26_l x26_c =>
    Pn x26_b fun a =>
    (0 ≤ i ∧ i < ((x26_l : Nat) : Int)) ∧
    LdI .i64 (Addr.add a (i.toNat * 2)) w fun x30 =>
    Bm (x30 != (-7 : Int)) (
      nodelaw_Untouched.B1 mine_b mine_l mine_c j d i true w N1 N2 R) (
      LdL ⟨d, 1, none⟩ w fun x34_b x34_l x34_c =>
      Pn x34_b fun a_1 =>
      (0 ≤ i ∧ i < ((x34_l : Nat) : Int)) ∧
      LdS ((Addr.add a_1 (i.toNat * 2)).add 1) w fun x38 =>
      nodelaw_Untouched.B1 mine_b mine_l mine_c j d i (!(x38.toList == (ByteArray.mk #[120]).toList)) w N1 N2 R)) (
    nodelaw_Untouched.L3 mine_b mine_l mine_c j d (0 : Int) w N1 R)
theorem nodelaw_Untouched.L2b_eq (mine_b : Option Addr) (mine_l mine_c : Nat) (j : Int) (d : Nat) (i : Int) (w : World) (N1 : Option Addr → Nat → Nat → Int → World → Prop) (N2 : Option Addr → Nat → Nat → Int → Nat → Int → World → Prop) (R : Bool → World → Prop) (sB1 : Option Addr → Nat → Nat → Int → Nat → Int → Bool → World → Prop) (sL3 : Option Addr → Nat → Nat → Int → Nat → Int → World → Prop) :
    (
  LdL ⟨d, 1, none⟩ w fun x20_b x20_l x20_c =>
  Bm (decide (i < ((x20_l : Nat) : Int))) (
    LdL ⟨d, 1, none⟩ w fun x26_b x26_l x26_c =>
    Pn x26_b fun a =>
    (0 ≤ i ∧ i < ((x26_l : Nat) : Int)) ∧
    LdI .i64 (Addr.add a (i.toNat * 2)) w fun x30 =>
    Bm (x30 != (-7 : Int)) (
      sB1 mine_b mine_l mine_c j d i true w) (
      LdL ⟨d, 1, none⟩ w fun x34_b x34_l x34_c =>
      Pn x34_b fun a_1 =>
      (0 ≤ i ∧ i < ((x34_l : Nat) : Int)) ∧
      LdS ((Addr.add a_1 (i.toNat * 2)).add 1) w fun x38 =>
      sB1 mine_b mine_l mine_c j d i (!(x38.toList == (ByteArray.mk #[120]).toList)) w)) (
    sL3 mine_b mine_l mine_c j d (0 : Int) w)) = kstep Tryz.prog 73 Tryz.f20.results.toList (Tryz.f20.body.getD .skip) (nodelaw_Untouched.RV R) (kvc Tryz.prog 73 Tryz.f20.results.toList (Tryz.f20.body.getD .skip) (nodelaw_Untouched.RV R) [([(0, [1, 0, 1, 0, 0, 1, 0, 0, 1, 0, 1, 0, 0, 1, 0, 0, 1]), (1, [3]), (0, [1, 0, 1, 0, 0, 1, 0, 0, 1, 0, 1, 0, 0, 1, 1]), (2, [1, 0, 1, 0, 0, 1, 0, 0, 1, 0, 1, 0, 0]), (1, [2]), (0, [1, 0, 1, 0, 0, 1, 0, 0, 1, 1]), (1, [1]), (0, [1, 0, 1, 0, 0, 1, 1]), (2, [1, 0, 1, 0, 0]), (1, [0]), (0, [1, 1])], fun σ w => dL (slotOf σ 0) fun mine_b_ mine_l_ mine_c_ => dI .i64 (slotOf σ 3) fun j_ => dK (slotOf σ 4) fun d_ => dI .i64 (slotOf σ 5) fun i_ => dB (slotOf σ 40) fun t40_ => sB1 mine_b_ mine_l_ mine_c_ j_ d_ i_ t40_ w),
    ([(0, [1, 0, 1, 0, 0, 1, 0, 0, 1, 1, 1, 0, 0]), (2, [1, 0, 1, 0, 0, 1, 0, 0, 1, 1, 1, 0, 0]), (1, [4]), (1, [1]), (0, [1, 0, 1, 0, 0, 1, 1]), (2, [1, 0, 1, 0, 0]), (1, [0]), (0, [1, 1])], fun σ w => dL (slotOf σ 0) fun mine_b_ mine_l_ mine_c_ => dI .i64 (slotOf σ 3) fun j_ => dK (slotOf σ 4) fun d_ => dI .i64 (slotOf σ 6) fun i_ => sL3 mine_b_ mine_l_ mine_c_ j_ d_ i_ w)] 2000) [(0, [1, 0, 1, 0, 0, 1, 0, 0, 1, 0, 1, 0, 0]), (2, [1, 0, 1, 0, 0, 1, 0, 0, 1, 0, 1, 0, 0]), (1, [2]), (0, [1, 0, 1, 0, 0, 1, 0, 0, 1, 1]), (1, [1]), (0, [1, 0, 1, 0, 0, 1, 1]), (2, [1, 0, 1, 0, 0]), (1, [0]), (0, [1, 1])] [(0, .slice mine_b mine_l mine_c), (3, .int .i64 j), (4, .pointer (some ⟨d, 0, none⟩)), (5, .int .i64 i)] w := by kernel_rfl
theorem nodelaw_Untouched.L2b_sound {R : Bool → World → Prop} {N1 : Option Addr → Nat → Nat → Int → World → Prop} (hN1 : ∀ mine_b mine_l mine_c j w, N1 mine_b mine_l mine_c j w → KW Tryz.prog 20 73 (nodelaw_Untouched.RV R) ([(0, [1, 0, 1, 0, 0]), (2, [1, 0, 1, 0, 0]), (1, [0]), (0, [1, 1])].map (toItem (Tryz.f20.body.getD .skip))) [(0, .slice mine_b mine_l mine_c), (3, .int .i64 j)] w) {N2 : Option Addr → Nat → Nat → Int → Nat → Int → World → Prop} (hN2 : ∀ mine_b mine_l mine_c j d i w, N2 mine_b mine_l mine_c j d i w → KW Tryz.prog 20 73 (nodelaw_Untouched.RV R) ([(0, [1, 0, 1, 0, 0, 1, 0, 0, 1, 0, 1, 0, 0]), (2, [1, 0, 1, 0, 0, 1, 0, 0, 1, 0, 1, 0, 0]), (1, [2]), (0, [1, 0, 1, 0, 0, 1, 0, 0, 1, 1]), (1, [1]), (0, [1, 0, 1, 0, 0, 1, 1]), (2, [1, 0, 1, 0, 0]), (1, [0]), (0, [1, 1])].map (toItem (Tryz.f20.body.getD .skip))) [(0, .slice mine_b mine_l mine_c), (3, .int .i64 j), (4, .pointer (some ⟨d, 0, none⟩)), (5, .int .i64 i)] w) (mine_b : Option Addr) (mine_l mine_c : Nat) (j : Int) (d : Nat) (i : Int) (w : World) (h : nodelaw_Untouched.L2b mine_b mine_l mine_c j d i w N1 N2 R) :
    KW Tryz.prog 20 73 (nodelaw_Untouched.RV R) ([(0, [1, 0, 1, 0, 0, 1, 0, 0, 1, 0, 1, 0, 0]), (2, [1, 0, 1, 0, 0, 1, 0, 0, 1, 0, 1, 0, 0]), (1, [2]), (0, [1, 0, 1, 0, 0, 1, 0, 0, 1, 1]), (1, [1]), (0, [1, 0, 1, 0, 0, 1, 1]), (2, [1, 0, 1, 0, 0]), (1, [0]), (0, [1, 1])].map (toItem (Tryz.f20.body.getD .skip))) [(0, .slice mine_b mine_l mine_c), (3, .int .i64 j), (4, .pointer (some ⟨d, 0, none⟩)), (5, .int .i64 i)] w := by
  exact block_spec Tryz.func20 Tryz.mixed (stops_cons (fun σ w h => by
      obtain ⟨mine_b_, mine_l_, mine_c_, e0, h⟩ := dL_elim h
      obtain ⟨j_, e1, h⟩ := dI_elim h
      obtain ⟨d_, e2, h⟩ := dK_elim h
      obtain ⟨i_, e3, h⟩ := dI_elim h
      obtain ⟨t40_, e4, h⟩ := dB_elim h
      exact (nodelaw_Untouched.B1_sound hN1 hN2 mine_b_ mine_l_ mine_c_ j_ d_ i_ t40_ w h).weaken (Sub.cons (Sub.cons (Sub.cons (Sub.cons (Sub.cons (Sub.nil _) e4) e3) e2) e1) e0)) (stops_cons (fun σ w h => by
      obtain ⟨mine_b_, mine_l_, mine_c_, e0, h⟩ := dL_elim h
      obtain ⟨j_, e1, h⟩ := dI_elim h
      obtain ⟨d_, e2, h⟩ := dK_elim h
      obtain ⟨i_, e3, h⟩ := dI_elim h
      exact (nodelaw_Untouched.L3_sound hN1 mine_b_ mine_l_ mine_c_ j_ d_ i_ w h).weaken (Sub.cons (Sub.cons (Sub.cons (Sub.cons (Sub.nil _) e3) e2) e1) e0)) stops_nil)) (Eq.mp (nodelaw_Untouched.L2b_eq mine_b mine_l mine_c j d i w N1 N2 R (fun mine_b_ mine_l_ mine_c_ j_ d_ i_ t40_ w => nodelaw_Untouched.B1 mine_b_ mine_l_ mine_c_ j_ d_ i_ t40_ w N1 N2 R) (fun mine_b_ mine_l_ mine_c_ j_ d_ i_ w => nodelaw_Untouched.L3 mine_b_ mine_l_ mine_c_ j_ d_ i_ w N1 R)) h)
def nodelaw_Untouched.L2 (mine_b : Option Addr) (mine_l mine_c : Nat) (j : Int) (d : Nat) (i : Int) (w : World) (N1 : Option Addr → Nat → Nat → Int → World → Prop) (R : Bool → World → Prop) : Prop :=
  ∃ (I : Nat → Option Addr → Nat → Nat → Int → Nat → Int → World → Prop) (m : Nat), I m mine_b mine_l mine_c j d i w ∧ ∀ m mine_b mine_l mine_c j d i w, I m mine_b mine_l mine_c j d i w → nodelaw_Untouched.L2b mine_b mine_l mine_c j d i w N1 (fun mine_b' mine_l' mine_c' j' d' i' w' => ∃ m', m' < m ∧ I m' mine_b' mine_l' mine_c' j' d' i' w') R
theorem nodelaw_Untouched.L2_sound {R : Bool → World → Prop} {N1 : Option Addr → Nat → Nat → Int → World → Prop} (hN1 : ∀ mine_b mine_l mine_c j w, N1 mine_b mine_l mine_c j w → KW Tryz.prog 20 73 (nodelaw_Untouched.RV R) ([(0, [1, 0, 1, 0, 0]), (2, [1, 0, 1, 0, 0]), (1, [0]), (0, [1, 1])].map (toItem (Tryz.f20.body.getD .skip))) [(0, .slice mine_b mine_l mine_c), (3, .int .i64 j)] w) (mine_b : Option Addr) (mine_l mine_c : Nat) (j : Int) (d : Nat) (i : Int) (w : World) (h : nodelaw_Untouched.L2 mine_b mine_l mine_c j d i w N1 R) :
    KW Tryz.prog 20 73 (nodelaw_Untouched.RV R) ([(0, [1, 0, 1, 0, 0, 1, 0, 0, 1, 0, 1, 0, 0]), (2, [1, 0, 1, 0, 0, 1, 0, 0, 1, 0, 1, 0, 0]), (1, [2]), (0, [1, 0, 1, 0, 0, 1, 0, 0, 1, 1]), (1, [1]), (0, [1, 0, 1, 0, 0, 1, 1]), (2, [1, 0, 1, 0, 0]), (1, [0]), (0, [1, 1])].map (toItem (Tryz.f20.body.getD .skip))) [(0, .slice mine_b mine_l mine_c), (3, .int .i64 j), (4, .pointer (some ⟨d, 0, none⟩)), (5, .int .i64 i)] w := by
  obtain ⟨I, m, hBase, hr⟩ := h
  refine KW.loop (fun m σ w => ∃ (mine_b : Option Addr) (mine_l mine_c : Nat) (j : Int) (d : Nat) (i : Int), σ = [(0, .slice mine_b mine_l mine_c), (3, .int .i64 j), (4, .pointer (some ⟨d, 0, none⟩)), (5, .int .i64 i)] ∧ I m mine_b mine_l mine_c j d i w) ?_ m _ w ⟨mine_b, mine_l, mine_c, j, d, i, rfl, hBase⟩
  rintro m ih σ w ⟨mine_b, mine_l, mine_c, j, d, i, rfl, hI⟩
  exact nodelaw_Untouched.L2b_sound hN1 (N2 := fun mine_b' mine_l' mine_c' j' d' i' w' => ∃ m', m' < m ∧ I m' mine_b' mine_l' mine_c' j' d' i' w') (fun mine_b' mine_l' mine_c' j' d' i' w' hx => by obtain ⟨m', hlt, hI'⟩ := hx; exact ih m' hlt _ w' ⟨mine_b', mine_l', mine_c', j', d', i', rfl, hI'⟩) mine_b mine_l mine_c j d i w (hr m mine_b mine_l mine_c j d i w hI)
def nodelaw_Untouched.L1b (mine_b : Option Addr) (mine_l mine_c : Nat) (j : Int) (w : World)  (N1 : Option Addr → Nat → Nat → Int → World → Prop) (R : Bool → World → Prop) : Prop :=
  Bm (decide (j < ((mine_l : Nat) : Int))) (
    Pn mine_b fun a =>
    (0 ≤ j ∧ j < ((mine_l : Nat) : Int)) ∧
    LdI .i64 (Addr.add a (j.toNat * 3)) w fun x17_0 =>
    LdL ((Addr.add a (j.toNat * 3)).add 1) w fun x17_1_b x17_1_l x17_1_c =>
    LdL ((Addr.add a (j.toNat * 3)).add 2) w fun x17_2_b x17_2_l x17_2_c =>
    New (.cells #[.int .i64 (0 : Int), .slice none 0 0, .slice none 0 0] 42) w fun d_ w1 =>
    Sts [.int .i64 x17_0, .slice x17_1_b x17_1_l x17_1_c, .slice x17_2_b x17_2_l x17_2_c] ⟨d_, 0, none⟩ 0 w1 fun w2 =>
    nodelaw_Untouched.L2 mine_b mine_l mine_c j d_ (0 : Int) w2 N1 R) (
    R true w)
theorem nodelaw_Untouched.L1b_eq (mine_b : Option Addr) (mine_l mine_c : Nat) (j : Int) (w : World)  (N1 : Option Addr → Nat → Nat → Int → World → Prop) (R : Bool → World → Prop) (sL2 : Option Addr → Nat → Nat → Int → Nat → Int → World → Prop) :
    (
  Bm (decide (j < ((mine_l : Nat) : Int))) (
    Pn mine_b fun a =>
    (0 ≤ j ∧ j < ((mine_l : Nat) : Int)) ∧
    LdI .i64 (Addr.add a (j.toNat * 3)) w fun x17_0 =>
    LdL ((Addr.add a (j.toNat * 3)).add 1) w fun x17_1_b x17_1_l x17_1_c =>
    LdL ((Addr.add a (j.toNat * 3)).add 2) w fun x17_2_b x17_2_l x17_2_c =>
    New (.cells #[.int .i64 (0 : Int), .slice none 0 0, .slice none 0 0] 42) w fun d_ w1 =>
    Sts [.int .i64 x17_0, .slice x17_1_b x17_1_l x17_1_c, .slice x17_2_b x17_2_l x17_2_c] ⟨d_, 0, none⟩ 0 w1 fun w2 =>
    sL2 mine_b mine_l mine_c j d_ (0 : Int) w2) (
    R true w)) = kstep Tryz.prog 73 Tryz.f20.results.toList (Tryz.f20.body.getD .skip) (nodelaw_Untouched.RV R) (kvc Tryz.prog 73 Tryz.f20.results.toList (Tryz.f20.body.getD .skip) (nodelaw_Untouched.RV R) [([(0, [1, 0, 1, 0, 0, 1, 0, 0, 1, 0, 1, 0, 0]), (2, [1, 0, 1, 0, 0, 1, 0, 0, 1, 0, 1, 0, 0]), (1, [2]), (0, [1, 0, 1, 0, 0, 1, 0, 0, 1, 1]), (1, [1]), (0, [1, 0, 1, 0, 0, 1, 1]), (2, [1, 0, 1, 0, 0]), (1, [0]), (0, [1, 1])], fun σ w => dL (slotOf σ 0) fun mine_b_ mine_l_ mine_c_ => dI .i64 (slotOf σ 3) fun j_ => dK (slotOf σ 4) fun d_ => dI .i64 (slotOf σ 5) fun i_ => sL2 mine_b_ mine_l_ mine_c_ j_ d_ i_ w)] 2000) [(0, [1, 0, 1, 0, 0]), (2, [1, 0, 1, 0, 0]), (1, [0]), (0, [1, 1])] [(0, .slice mine_b mine_l mine_c), (3, .int .i64 j)] w := by kernel_rfl
theorem nodelaw_Untouched.L1b_sound {R : Bool → World → Prop} {N1 : Option Addr → Nat → Nat → Int → World → Prop} (hN1 : ∀ mine_b mine_l mine_c j w, N1 mine_b mine_l mine_c j w → KW Tryz.prog 20 73 (nodelaw_Untouched.RV R) ([(0, [1, 0, 1, 0, 0]), (2, [1, 0, 1, 0, 0]), (1, [0]), (0, [1, 1])].map (toItem (Tryz.f20.body.getD .skip))) [(0, .slice mine_b mine_l mine_c), (3, .int .i64 j)] w) (mine_b : Option Addr) (mine_l mine_c : Nat) (j : Int) (w : World) (h : nodelaw_Untouched.L1b mine_b mine_l mine_c j w  N1 R) :
    KW Tryz.prog 20 73 (nodelaw_Untouched.RV R) ([(0, [1, 0, 1, 0, 0]), (2, [1, 0, 1, 0, 0]), (1, [0]), (0, [1, 1])].map (toItem (Tryz.f20.body.getD .skip))) [(0, .slice mine_b mine_l mine_c), (3, .int .i64 j)] w := by
  exact block_spec Tryz.func20 Tryz.mixed (stops_cons (fun σ w h => by
      obtain ⟨mine_b_, mine_l_, mine_c_, e0, h⟩ := dL_elim h
      obtain ⟨j_, e1, h⟩ := dI_elim h
      obtain ⟨d_, e2, h⟩ := dK_elim h
      obtain ⟨i_, e3, h⟩ := dI_elim h
      exact (nodelaw_Untouched.L2_sound hN1 mine_b_ mine_l_ mine_c_ j_ d_ i_ w h).weaken (Sub.cons (Sub.cons (Sub.cons (Sub.cons (Sub.nil _) e3) e2) e1) e0)) stops_nil) (Eq.mp (nodelaw_Untouched.L1b_eq mine_b mine_l mine_c j w  N1 R (fun mine_b_ mine_l_ mine_c_ j_ d_ i_ w => nodelaw_Untouched.L2 mine_b_ mine_l_ mine_c_ j_ d_ i_ w N1 R)) h)
def nodelaw_Untouched.L1 (mine_b : Option Addr) (mine_l mine_c : Nat) (j : Int) (w : World)  (R : Bool → World → Prop) : Prop :=
  ∃ (I : Nat → Option Addr → Nat → Nat → Int → World → Prop) (m : Nat), I m mine_b mine_l mine_c j w ∧ ∀ m mine_b mine_l mine_c j w, I m mine_b mine_l mine_c j w → nodelaw_Untouched.L1b mine_b mine_l mine_c j w  (fun mine_b' mine_l' mine_c' j' w' => ∃ m', m' < m ∧ I m' mine_b' mine_l' mine_c' j' w') R
theorem nodelaw_Untouched.L1_sound {R : Bool → World → Prop}  (mine_b : Option Addr) (mine_l mine_c : Nat) (j : Int) (w : World) (h : nodelaw_Untouched.L1 mine_b mine_l mine_c j w  R) :
    KW Tryz.prog 20 73 (nodelaw_Untouched.RV R) ([(0, [1, 0, 1, 0, 0]), (2, [1, 0, 1, 0, 0]), (1, [0]), (0, [1, 1])].map (toItem (Tryz.f20.body.getD .skip))) [(0, .slice mine_b mine_l mine_c), (3, .int .i64 j)] w := by
  obtain ⟨I, m, hBase, hr⟩ := h
  refine KW.loop (fun m σ w => ∃ (mine_b : Option Addr) (mine_l mine_c : Nat) (j : Int), σ = [(0, .slice mine_b mine_l mine_c), (3, .int .i64 j)] ∧ I m mine_b mine_l mine_c j w) ?_ m _ w ⟨mine_b, mine_l, mine_c, j, rfl, hBase⟩
  rintro m ih σ w ⟨mine_b, mine_l, mine_c, j, rfl, hI⟩
  exact nodelaw_Untouched.L1b_sound  (N1 := fun mine_b' mine_l' mine_c' j' w' => ∃ m', m' < m ∧ I m' mine_b' mine_l' mine_c' j' w') (fun mine_b' mine_l' mine_c' j' w' hx => by obtain ⟨m', hlt, hI'⟩ := hx; exact ih m' hlt _ w' ⟨mine_b', mine_l', mine_c', j', rfl, hI'⟩) mine_b mine_l mine_c j w (hr m mine_b mine_l mine_c j w hI)
def nodelaw_Untouched.B0 (mine_b : Option Addr) (mine_l mine_c : Nat) (w : World)   (R : Bool → World → Prop) : Prop :=
  nodelaw_Untouched.L1 mine_b mine_l mine_c (0 : Int) w  R
theorem nodelaw_Untouched.B0_eq (mine_b : Option Addr) (mine_l mine_c : Nat) (w : World)   (R : Bool → World → Prop) (sL1 : Option Addr → Nat → Nat → Int → World → Prop) :
    (
  sL1 mine_b mine_l mine_c (0 : Int) w) = kstep Tryz.prog 73 Tryz.f20.results.toList (Tryz.f20.body.getD .skip) (nodelaw_Untouched.RV R) (kvc Tryz.prog 73 Tryz.f20.results.toList (Tryz.f20.body.getD .skip) (nodelaw_Untouched.RV R) [([(0, [1, 0, 1, 0, 0]), (2, [1, 0, 1, 0, 0]), (1, [0]), (0, [1, 1])], fun σ w => dL (slotOf σ 0) fun mine_b_ mine_l_ mine_c_ => dI .i64 (slotOf σ 3) fun j_ => sL1 mine_b_ mine_l_ mine_c_ j_ w)] 2000) [(0, [])] [(0, .slice mine_b mine_l mine_c)] w := by kernel_rfl
theorem nodelaw_Untouched.B0_sound {R : Bool → World → Prop}  (mine_b : Option Addr) (mine_l mine_c : Nat) (w : World) (h : nodelaw_Untouched.B0 mine_b mine_l mine_c w   R) :
    KW Tryz.prog 20 73 (nodelaw_Untouched.RV R) ([(0, [])].map (toItem (Tryz.f20.body.getD .skip))) [(0, .slice mine_b mine_l mine_c)] w := by
  exact block_spec Tryz.func20 Tryz.mixed (stops_cons (fun σ w h => by
      obtain ⟨mine_b_, mine_l_, mine_c_, e0, h⟩ := dL_elim h
      obtain ⟨j_, e1, h⟩ := dI_elim h
      exact (nodelaw_Untouched.L1_sound  mine_b_ mine_l_ mine_c_ j_ w h).weaken (Sub.cons (Sub.cons (Sub.nil _) e1) e0)) stops_nil) (Eq.mp (nodelaw_Untouched.B0_eq mine_b mine_l mine_c w   R (fun mine_b_ mine_l_ mine_c_ j_ w => nodelaw_Untouched.L1 mine_b_ mine_l_ mine_c_ j_ w  R)) h)
theorem nodelaw_Untouched.sound (mine_b : Option Addr) (mine_l mine_c : Nat) (w : World) (R : Bool → World → Prop) (h : nodelaw_Untouched.B0 mine_b mine_l mine_c w R) : nodelaw_Untouched.Call mine_b mine_l mine_c w R := by
  have hc := calls_of_block (args := #[.slice mine_b mine_l mine_c]) Tryz.func20 (body := (Tryz.f20.body.getD .skip)) (by kernel_rfl) (by kernel_rfl) (args_slot _) (nodelaw_Untouched.B0_sound mine_b mine_l mine_c w h)
  exact hc.mono fun e w' he => by
    obtain ⟨v, rfl, hv⟩ := he
    exact nodelaw_Untouched.RV_elim hv
end Go.Proofs.Qxb6500430aGreat
