import Derived.Test.Qxb6500424aGreatSig
set_option maxRecDepth 100000
set_option linter.unusedVariables false
open Go.Vc
namespace Go.Proofs.Qxb6500424aGreat
def sock_Table_Get.B0 (t : Option Addr) (sd : Int) (w : World)   (R : Int → Int → Int → Int → Int → Int → Int → Bool → Int → World → Prop) : Prop :=
  New (.cells #[.int .i64 (0 : Int), .int .i64 (0 : Int), .int .i64 (0 : Int), .int .i64 (0 : Int), .int .i64 (0 : Int), .int .i64 (0 : Int), .int .i64 (0 : Int), .bool false] 66) w fun b4 w1 =>
  sock_Table_find.Call t sd w1 fun r9 w2 =>
  Bm (r9 == (-1 : Int)) (
    Sts [.int .i64 (0 : Int), .int .i64 (0 : Int), .int .i64 (0 : Int), .int .i64 (0 : Int), .int .i64 (0 : Int), .int .i64 (0 : Int), .int .i64 (0 : Int), .bool false] ⟨b4, 0, none⟩ 0 w2 fun w3 =>
    LdI .i64 ⟨b4, 0, none⟩ w3 fun r_0 =>
    LdI .i64 ⟨b4, 1, none⟩ w3 fun r_1 =>
    LdI .i64 ⟨b4, 2, none⟩ w3 fun r_2 =>
    LdI .i64 ⟨b4, 3, none⟩ w3 fun r_3 =>
    LdI .i64 ⟨b4, 4, none⟩ w3 fun r_4 =>
    LdI .i64 ⟨b4, 5, none⟩ w3 fun r_5 =>
    LdI .i64 ⟨b4, 6, none⟩ w3 fun r_6 =>
    LdB ⟨b4, 7, none⟩ w3 fun r_7 =>
    R r_0 r_1 r_2 r_3 r_4 r_5 r_6 r_7 (21 : Int) w3) (
    Pn t fun a =>
    (0 ≤ r9 ∧ r9 < ((6 : Nat) : Int)) ∧
    LdI .i64 ((Addr.add a (r9.toNat * 15)).add 1) w2 fun x19_0 =>
    LdI .i64 (((Addr.add a (r9.toNat * 15)).add 1).add 1) w2 fun x19_1 =>
    LdI .i64 (((Addr.add a (r9.toNat * 15)).add 1).add 2) w2 fun x19_2 =>
    LdI .i64 (((Addr.add a (r9.toNat * 15)).add 1).add 3) w2 fun x19_3 =>
    LdI .i64 (((Addr.add a (r9.toNat * 15)).add 1).add 4) w2 fun x19_4 =>
    LdI .i64 (((Addr.add a (r9.toNat * 15)).add 1).add 5) w2 fun x19_5 =>
    LdI .i64 (((Addr.add a (r9.toNat * 15)).add 1).add 6) w2 fun x19_6 =>
    LdB (((Addr.add a (r9.toNat * 15)).add 1).add 7) w2 fun x19_7 =>
    Sts [.int .i64 x19_0, .int .i64 x19_1, .int .i64 x19_2, .int .i64 x19_3, .int .i64 x19_4, .int .i64 x19_5, .int .i64 x19_6, .bool x19_7] ⟨b4, 0, none⟩ 0 w2 fun w4 =>
    LdI .i64 ⟨b4, 0, none⟩ w4 fun r_0_1 =>
    LdI .i64 ⟨b4, 1, none⟩ w4 fun r_1_1 =>
    LdI .i64 ⟨b4, 2, none⟩ w4 fun r_2_1 =>
    LdI .i64 ⟨b4, 3, none⟩ w4 fun r_3_1 =>
    LdI .i64 ⟨b4, 4, none⟩ w4 fun r_4_1 =>
    LdI .i64 ⟨b4, 5, none⟩ w4 fun r_5_1 =>
    LdI .i64 ⟨b4, 6, none⟩ w4 fun r_6_1 =>
    LdB ⟨b4, 7, none⟩ w4 fun r_7_1 =>
    R r_0_1 r_1_1 r_2_1 r_3_1 r_4_1 r_5_1 r_6_1 r_7_1 (0 : Int) w4)
theorem sock_Table_Get.B0_eq (t : Option Addr) (sd : Int) (w : World)   (R : Int → Int → Int → Int → Int → Int → Int → Bool → Int → World → Prop)  :
    (
  New (.cells #[.int .i64 (0 : Int), .int .i64 (0 : Int), .int .i64 (0 : Int), .int .i64 (0 : Int), .int .i64 (0 : Int), .int .i64 (0 : Int), .int .i64 (0 : Int), .bool false] 66) w fun b4 w1 =>
  sock_Table_find.Call t sd w1 fun r9 w2 =>
  Bm (r9 == (-1 : Int)) (
    Sts [.int .i64 (0 : Int), .int .i64 (0 : Int), .int .i64 (0 : Int), .int .i64 (0 : Int), .int .i64 (0 : Int), .int .i64 (0 : Int), .int .i64 (0 : Int), .bool false] ⟨b4, 0, none⟩ 0 w2 fun w3 =>
    LdI .i64 ⟨b4, 0, none⟩ w3 fun r_0 =>
    LdI .i64 ⟨b4, 1, none⟩ w3 fun r_1 =>
    LdI .i64 ⟨b4, 2, none⟩ w3 fun r_2 =>
    LdI .i64 ⟨b4, 3, none⟩ w3 fun r_3 =>
    LdI .i64 ⟨b4, 4, none⟩ w3 fun r_4 =>
    LdI .i64 ⟨b4, 5, none⟩ w3 fun r_5 =>
    LdI .i64 ⟨b4, 6, none⟩ w3 fun r_6 =>
    LdB ⟨b4, 7, none⟩ w3 fun r_7 =>
    R r_0 r_1 r_2 r_3 r_4 r_5 r_6 r_7 (21 : Int) w3) (
    Pn t fun a =>
    (0 ≤ r9 ∧ r9 < ((6 : Nat) : Int)) ∧
    LdI .i64 ((Addr.add a (r9.toNat * 15)).add 1) w2 fun x19_0 =>
    LdI .i64 (((Addr.add a (r9.toNat * 15)).add 1).add 1) w2 fun x19_1 =>
    LdI .i64 (((Addr.add a (r9.toNat * 15)).add 1).add 2) w2 fun x19_2 =>
    LdI .i64 (((Addr.add a (r9.toNat * 15)).add 1).add 3) w2 fun x19_3 =>
    LdI .i64 (((Addr.add a (r9.toNat * 15)).add 1).add 4) w2 fun x19_4 =>
    LdI .i64 (((Addr.add a (r9.toNat * 15)).add 1).add 5) w2 fun x19_5 =>
    LdI .i64 (((Addr.add a (r9.toNat * 15)).add 1).add 6) w2 fun x19_6 =>
    LdB (((Addr.add a (r9.toNat * 15)).add 1).add 7) w2 fun x19_7 =>
    Sts [.int .i64 x19_0, .int .i64 x19_1, .int .i64 x19_2, .int .i64 x19_3, .int .i64 x19_4, .int .i64 x19_5, .int .i64 x19_6, .bool x19_7] ⟨b4, 0, none⟩ 0 w2 fun w4 =>
    LdI .i64 ⟨b4, 0, none⟩ w4 fun r_0_1 =>
    LdI .i64 ⟨b4, 1, none⟩ w4 fun r_1_1 =>
    LdI .i64 ⟨b4, 2, none⟩ w4 fun r_2_1 =>
    LdI .i64 ⟨b4, 3, none⟩ w4 fun r_3_1 =>
    LdI .i64 ⟨b4, 4, none⟩ w4 fun r_4_1 =>
    LdI .i64 ⟨b4, 5, none⟩ w4 fun r_5_1 =>
    LdI .i64 ⟨b4, 6, none⟩ w4 fun r_6_1 =>
    LdB ⟨b4, 7, none⟩ w4 fun r_7_1 =>
    R r_0_1 r_1_1 r_2_1 r_3_1 r_4_1 r_5_1 r_6_1 r_7_1 (0 : Int) w4)) = kstep Tryz.prog 20 Tryz.f65.results.toList (Tryz.f65.body.getD .skip) (sock_Table_Get.RV R) (kvc Tryz.prog 20 Tryz.f65.results.toList (Tryz.f65.body.getD .skip) (sock_Table_Get.RV R) [] 2000) [(0, [])] [(0, .pointer t), (1, .int .i64 sd)] w := by kernel_rfl
theorem sock_Table_Get.B0_sound {R : Int → Int → Int → Int → Int → Int → Int → Bool → Int → World → Prop}  (t : Option Addr) (sd : Int) (w : World) (h : sock_Table_Get.B0 t sd w   R) :
    KW Tryz.prog 65 20 (sock_Table_Get.RV R) ([(0, [])].map (toItem (Tryz.f65.body.getD .skip))) [(0, .pointer t), (1, .int .i64 sd)] w := by
  exact block_spec Tryz.func65 Tryz.mixed stops_nil (Eq.mp (sock_Table_Get.B0_eq t sd w   R ) h)
theorem sock_Table_Get.sound (t : Option Addr) (sd : Int) (w : World) (R : Int → Int → Int → Int → Int → Int → Int → Bool → Int → World → Prop) (h : sock_Table_Get.B0 t sd w R) : sock_Table_Get.Call t sd w R := by
  have hc := calls_of_block (args := #[.pointer t, .int .i64 sd]) Tryz.func65 (body := (Tryz.f65.body.getD .skip)) (by kernel_rfl) (by kernel_rfl) (args_slot _) (sock_Table_Get.B0_sound t sd w h)
  exact hc.mono fun e w' he => by
    obtain ⟨v, rfl, hv⟩ := he
    exact sock_Table_Get.RV_elim hv
def conn_Conn_Info.B0 (c : Option Addr) (w : World)   (R : Option Addr → World → Prop) : Prop :=
  Pn c fun a =>
  LdI .i64 (a.add 2) w.drew fun x7 =>
  Pn c fun a_1 =>
  LdI .i64 (a_1.add 3) w.drew fun x11 =>
  Pn c fun a_2 =>
  LdB (a_2.add 4) w.drew fun x15 =>
  Pn c fun a_3 =>
  LdB (a_3.add 5) w.drew fun x19 =>
  Pn c fun a_4 =>
  LdB (a_4.add 6) w.drew fun x23 =>
  Pn c fun a_5 =>
  LdB (a_5.add 7) w.drew fun x27 =>
  Pn c fun a_6 =>
  LdI .i64 (a_6.add 9) w.drew fun x31 =>
  Pn c fun a_7 =>
  LdI .i64 (a_7.add 10) w.drew fun x35 =>
  Pn c fun a_8 =>
  LdI .i64 (a_8.add 11) w.drew fun x39 =>
  Pn c fun a_9 =>
  LdI .i64 (a_9.add 12) w.drew fun x43 =>
  Pn c fun a_10 =>
  LdI .i64 (a_10.add 13) w.drew fun x47 =>
  New (.cells #[.int .i64 x7, .int .i64 x11, .bool x15, .bool x19, .bool x23, .bool x27, .int .i64 (0 : Int), .int .i64 (0 : Int), .int .i64 (0 : Int), .int .i64 (0 : Int), .int .i64 (0 : Int), .int .i64 (0 : Int), .int .i64 (0 : Int), .int .i64 x31, .int .i64 x35, .int .i64 x39, .int .i64 x43, .int .i64 x47] 95) w.drew fun b49 w1 =>
  conn_Conn_sndUna.Call c w1 fun r52 w2 =>
  Sts [.int .i64 r52] ⟨b49, 6, none⟩ 0 w2 fun w3 =>
  conn_Conn_sndNxt.Call c w3 fun r57 w4 =>
  Sts [.int .i64 r57] ⟨b49, 7, none⟩ 0 w4 fun w5 =>
  conn_Conn_rcvNxt.Call c w5 fun r62 w6 =>
  Sts [.int .i64 r62] ⟨b49, 8, none⟩ 0 w6 fun w7 =>
  Pn c fun a_11 =>
  LdP a_11 w7 fun x69 =>
  seg_SendBuf_Len.Call x69 w7 fun r70 w8 =>
  Sts [.int .i64 r70] ⟨b49, 9, none⟩ 0 w8 fun w9 =>
  Pn c fun a_12 =>
  LdP a_12 w9 fun x77 =>
  seg_SendBuf_Unsent.Call x77 w9 fun r78 w10 =>
  Sts [.int .i64 r78] ⟨b49, 10, none⟩ 0 w10 fun w11 =>
  Pn c fun a_13 =>
  LdP (a_13.add 1) w11 fun x85 =>
  seg_RecvBuf_Avail.Call x85 w11 fun r86 w12 =>
  Sts [.int .i64 r86] ⟨b49, 11, none⟩ 0 w12 fun w13 =>
  Pn c fun a_14 =>
  LdP (a_14.add 1) w13 fun x93 =>
  seg_RecvBuf_Held.Call x93 w13 fun r94 w14 =>
  Sts [.int .i64 r94] ⟨b49, 12, none⟩ 0 w14 fun w15 =>
  R (some ⟨b49, 0, none⟩) w15
theorem conn_Conn_Info.B0_eq (c : Option Addr) (w : World)   (R : Option Addr → World → Prop)  :
    (
  Pn c fun a =>
  LdI .i64 (a.add 2) w.drew fun x7 =>
  Pn c fun a_1 =>
  LdI .i64 (a_1.add 3) w.drew fun x11 =>
  Pn c fun a_2 =>
  LdB (a_2.add 4) w.drew fun x15 =>
  Pn c fun a_3 =>
  LdB (a_3.add 5) w.drew fun x19 =>
  Pn c fun a_4 =>
  LdB (a_4.add 6) w.drew fun x23 =>
  Pn c fun a_5 =>
  LdB (a_5.add 7) w.drew fun x27 =>
  Pn c fun a_6 =>
  LdI .i64 (a_6.add 9) w.drew fun x31 =>
  Pn c fun a_7 =>
  LdI .i64 (a_7.add 10) w.drew fun x35 =>
  Pn c fun a_8 =>
  LdI .i64 (a_8.add 11) w.drew fun x39 =>
  Pn c fun a_9 =>
  LdI .i64 (a_9.add 12) w.drew fun x43 =>
  Pn c fun a_10 =>
  LdI .i64 (a_10.add 13) w.drew fun x47 =>
  New (.cells #[.int .i64 x7, .int .i64 x11, .bool x15, .bool x19, .bool x23, .bool x27, .int .i64 (0 : Int), .int .i64 (0 : Int), .int .i64 (0 : Int), .int .i64 (0 : Int), .int .i64 (0 : Int), .int .i64 (0 : Int), .int .i64 (0 : Int), .int .i64 x31, .int .i64 x35, .int .i64 x39, .int .i64 x43, .int .i64 x47] 95) w.drew fun b49 w1 =>
  conn_Conn_sndUna.Call c w1 fun r52 w2 =>
  Sts [.int .i64 r52] ⟨b49, 6, none⟩ 0 w2 fun w3 =>
  conn_Conn_sndNxt.Call c w3 fun r57 w4 =>
  Sts [.int .i64 r57] ⟨b49, 7, none⟩ 0 w4 fun w5 =>
  conn_Conn_rcvNxt.Call c w5 fun r62 w6 =>
  Sts [.int .i64 r62] ⟨b49, 8, none⟩ 0 w6 fun w7 =>
  Pn c fun a_11 =>
  LdP a_11 w7 fun x69 =>
  seg_SendBuf_Len.Call x69 w7 fun r70 w8 =>
  Sts [.int .i64 r70] ⟨b49, 9, none⟩ 0 w8 fun w9 =>
  Pn c fun a_12 =>
  LdP a_12 w9 fun x77 =>
  seg_SendBuf_Unsent.Call x77 w9 fun r78 w10 =>
  Sts [.int .i64 r78] ⟨b49, 10, none⟩ 0 w10 fun w11 =>
  Pn c fun a_13 =>
  LdP (a_13.add 1) w11 fun x85 =>
  seg_RecvBuf_Avail.Call x85 w11 fun r86 w12 =>
  Sts [.int .i64 r86] ⟨b49, 11, none⟩ 0 w12 fun w13 =>
  Pn c fun a_14 =>
  LdP (a_14.add 1) w13 fun x93 =>
  seg_RecvBuf_Held.Call x93 w13 fun r94 w14 =>
  Sts [.int .i64 r94] ⟨b49, 12, none⟩ 0 w14 fun w15 =>
  R (some ⟨b49, 0, none⟩) w15) = kstep Tryz.prog 98 Tryz.f66.results.toList (Tryz.f66.body.getD .skip) (conn_Conn_Info.RV R) (kvc Tryz.prog 98 Tryz.f66.results.toList (Tryz.f66.body.getD .skip) (conn_Conn_Info.RV R) [] 2000) [(0, [])] [(0, .pointer c)] w := by kernel_rfl
theorem conn_Conn_Info.B0_sound {R : Option Addr → World → Prop}  (c : Option Addr) (w : World) (h : conn_Conn_Info.B0 c w   R) :
    KW Tryz.prog 66 98 (conn_Conn_Info.RV R) ([(0, [])].map (toItem (Tryz.f66.body.getD .skip))) [(0, .pointer c)] w := by
  exact block_spec Tryz.func66 Tryz.mixed stops_nil (Eq.mp (conn_Conn_Info.B0_eq c w   R ) h)
theorem conn_Conn_Info.sound (c : Option Addr) (w : World) (R : Option Addr → World → Prop) (h : conn_Conn_Info.B0 c w R) : conn_Conn_Info.Call c w R := by
  have hc := calls_of_block (args := #[.pointer c]) Tryz.func66 (body := (Tryz.f66.body.getD .skip)) (by kernel_rfl) (by kernel_rfl) (args_slot _) (conn_Conn_Info.B0_sound c w h)
  exact hc.mono fun e w' he => by
    obtain ⟨v, rfl, hv⟩ := he
    exact conn_Conn_Info.RV_elim hv
def frame_Link_Addr.B0 (l : Option Addr) (w : World)   (R : Int → World → Prop) : Prop :=
  Pn l fun a =>
  LdI .u8 a w fun x6 =>
  R (IntKind.i64.wrap x6) w
theorem frame_Link_Addr.B0_eq (l : Option Addr) (w : World)   (R : Int → World → Prop)  :
    (
  Pn l fun a =>
  LdI .u8 a w fun x6 =>
  R (IntKind.i64.wrap x6) w) = kstep Tryz.prog 8 Tryz.f67.results.toList (Tryz.f67.body.getD .skip) (frame_Link_Addr.RV R) (kvc Tryz.prog 8 Tryz.f67.results.toList (Tryz.f67.body.getD .skip) (frame_Link_Addr.RV R) [] 2000) [(0, [])] [(0, .pointer l)] w := by kernel_rfl
theorem frame_Link_Addr.B0_sound {R : Int → World → Prop}  (l : Option Addr) (w : World) (h : frame_Link_Addr.B0 l w   R) :
    KW Tryz.prog 67 8 (frame_Link_Addr.RV R) ([(0, [])].map (toItem (Tryz.f67.body.getD .skip))) [(0, .pointer l)] w := by
  exact block_spec Tryz.func67 Tryz.mixed stops_nil (Eq.mp (frame_Link_Addr.B0_eq l w   R ) h)
theorem frame_Link_Addr.sound (l : Option Addr) (w : World) (R : Int → World → Prop) (h : frame_Link_Addr.B0 l w R) : frame_Link_Addr.Call l w R := by
  have hc := calls_of_block (args := #[.pointer l]) Tryz.func67 (body := (Tryz.f67.body.getD .skip)) (by kernel_rfl) (by kernel_rfl) (args_slot _) (frame_Link_Addr.B0_sound l w h)
  exact hc.mono fun e w' he => by
    obtain ⟨v, rfl, hv⟩ := he
    exact frame_Link_Addr.RV_elim hv
def ip_IP_Addr.B0 (p : Option Addr) (w : World)   (R : Int → World → Prop) : Prop :=
  Pn p fun a =>
  LdI .i64 a w fun x6 =>
  R x6 w
theorem ip_IP_Addr.B0_eq (p : Option Addr) (w : World)   (R : Int → World → Prop)  :
    (
  Pn p fun a =>
  LdI .i64 a w fun x6 =>
  R x6 w) = kstep Tryz.prog 7 Tryz.f68.results.toList (Tryz.f68.body.getD .skip) (ip_IP_Addr.RV R) (kvc Tryz.prog 7 Tryz.f68.results.toList (Tryz.f68.body.getD .skip) (ip_IP_Addr.RV R) [] 2000) [(0, [])] [(0, .pointer p)] w := by kernel_rfl
theorem ip_IP_Addr.B0_sound {R : Int → World → Prop}  (p : Option Addr) (w : World) (h : ip_IP_Addr.B0 p w   R) :
    KW Tryz.prog 68 7 (ip_IP_Addr.RV R) ([(0, [])].map (toItem (Tryz.f68.body.getD .skip))) [(0, .pointer p)] w := by
  exact block_spec Tryz.func68 Tryz.mixed stops_nil (Eq.mp (ip_IP_Addr.B0_eq p w   R ) h)
theorem ip_IP_Addr.sound (p : Option Addr) (w : World) (R : Int → World → Prop) (h : ip_IP_Addr.B0 p w R) : ip_IP_Addr.Call p w R := by
  have hc := calls_of_block (args := #[.pointer p]) Tryz.func68 (body := (Tryz.f68.body.getD .skip)) (by kernel_rfl) (by kernel_rfl) (args_slot _) (ip_IP_Addr.B0_sound p w h)
  exact hc.mono fun e w' he => by
    obtain ⟨v, rfl, hv⟩ := he
    exact ip_IP_Addr.RV_elim hv
def hostm_Net_Find.B1 (n : Option Addr) (host sd i : Int) (t38 : Bool) (w : World) (N1 : Option Addr → Int → Int → Int → World → Prop)  (R : Int → World → Prop) : Prop :=
  Bm t38 (
    R i w) (
    N1 n host sd (IntKind.i64.wrap (i + (1 : Int))) w)
theorem hostm_Net_Find.B1_eq (n : Option Addr) (host sd i : Int) (t38 : Bool) (w : World) (N1 : Option Addr → Int → Int → Int → World → Prop)  (R : Int → World → Prop)  :
    (
  Bm t38 (
    R i w) (
    N1 n host sd (IntKind.i64.wrap (i + (1 : Int))) w)) = kstep Tryz.prog 40 Tryz.f69.results.toList (Tryz.f69.body.getD .skip) (hostm_Net_Find.RV R) (kvc Tryz.prog 40 Tryz.f69.results.toList (Tryz.f69.body.getD .skip) (hostm_Net_Find.RV R) [([(0, [1, 0, 1, 0, 0]), (2, [1, 0, 1, 0, 0]), (1, [0]), (0, [1, 1])], fun σ w => dP (slotOf σ 0) fun n_ => dI .i64 (slotOf σ 1) fun host_ => dI .i64 (slotOf σ 2) fun sd_ => dI .i64 (slotOf σ 7) fun i_ => N1 n_ host_ sd_ i_ w)] 2000) [(0, [1, 0, 1, 0, 0, 1, 0, 0, 1]), (1, [1]), (0, [1, 0, 1, 0, 0, 1, 1]), (2, [1, 0, 1, 0, 0]), (1, [0]), (0, [1, 1])] [(0, .pointer n), (1, .int .i64 host), (2, .int .i64 sd), (7, .int .i64 i), (38, .bool t38)] w := by kernel_rfl
theorem hostm_Net_Find.B1_sound {R : Int → World → Prop} {N1 : Option Addr → Int → Int → Int → World → Prop} (hN1 : ∀ n host sd i w, N1 n host sd i w → KW Tryz.prog 69 40 (hostm_Net_Find.RV R) ([(0, [1, 0, 1, 0, 0]), (2, [1, 0, 1, 0, 0]), (1, [0]), (0, [1, 1])].map (toItem (Tryz.f69.body.getD .skip))) [(0, .pointer n), (1, .int .i64 host), (2, .int .i64 sd), (7, .int .i64 i)] w) (n : Option Addr) (host sd i : Int) (t38 : Bool) (w : World) (h : hostm_Net_Find.B1 n host sd i t38 w N1  R) :
    KW Tryz.prog 69 40 (hostm_Net_Find.RV R) ([(0, [1, 0, 1, 0, 0, 1, 0, 0, 1]), (1, [1]), (0, [1, 0, 1, 0, 0, 1, 1]), (2, [1, 0, 1, 0, 0]), (1, [0]), (0, [1, 1])].map (toItem (Tryz.f69.body.getD .skip))) [(0, .pointer n), (1, .int .i64 host), (2, .int .i64 sd), (7, .int .i64 i), (38, .bool t38)] w := by
  exact block_spec Tryz.func69 Tryz.mixed (stops_cons (fun σ w h => by
      obtain ⟨n_, e0, h⟩ := dP_elim h
      obtain ⟨host_, e1, h⟩ := dI_elim h
      obtain ⟨sd_, e2, h⟩ := dI_elim h
      obtain ⟨i_, e3, h⟩ := dI_elim h
      exact (hN1 n_ host_ sd_ i_ w h).weaken (Sub.cons (Sub.cons (Sub.cons (Sub.cons (Sub.nil _) e3) e2) e1) e0)) stops_nil) (Eq.mp (hostm_Net_Find.B1_eq n host sd i t38 w N1  R ) h)
def hostm_Net_Find.L1b (n : Option Addr) (host sd i : Int) (w : World)  (N1 : Option Addr → Int → Int → Int → World → Prop) (R : Int → World → Prop) : Prop :=
  Pn n fun a =>
  LdL a w fun x12_b x12_l x12_c =>
  Bm (decide (i < ((x12_l : Nat) : Int))) (
    Pn n fun a_1 =>
    LdL a_1 w fun x20_b x20_l x20_c =>
    Pn x20_b fun a_2 =>
    (0 ≤ i ∧ i < ((x20_l : Nat) : Int)) ∧
    LdI .i64 (Addr.add a_2 (i.toNat * 16)) w fun x24 =>
    Bm (x24 == host) (
      Pn n fun a_3 =>
      LdL a_3 w fun x31_b x31_l x31_c =>
      Pn x31_b fun a_4 =>
      (0 ≤ i ∧ i < ((x31_l : Nat) : Int)) ∧
      LdI .i64 ((Addr.add a_4 (i.toNat * 16)).add 1) w fun x35 =>
      hostm_Net_Find.B1 n host sd i (x35 == sd) w N1 R) (
      hostm_Net_Find.B1 n host sd i false w N1 R)) (
    R (-1 : Int) w)
theorem hostm_Net_Find.L1b_eq (n : Option Addr) (host sd i : Int) (w : World)  (N1 : Option Addr → Int → Int → Int → World → Prop) (R : Int → World → Prop) (sB1 : Option Addr → Int → Int → Int → Bool → World → Prop) :
    (
  Pn n fun a =>
  LdL a w fun x12_b x12_l x12_c =>
  Bm (decide (i < ((x12_l : Nat) : Int))) (
    Pn n fun a_1 =>
    LdL a_1 w fun x20_b x20_l x20_c =>
    Pn x20_b fun a_2 =>
    (0 ≤ i ∧ i < ((x20_l : Nat) : Int)) ∧
    LdI .i64 (Addr.add a_2 (i.toNat * 16)) w fun x24 =>
    Bm (x24 == host) (
      Pn n fun a_3 =>
      LdL a_3 w fun x31_b x31_l x31_c =>
      Pn x31_b fun a_4 =>
      (0 ≤ i ∧ i < ((x31_l : Nat) : Int)) ∧
      LdI .i64 ((Addr.add a_4 (i.toNat * 16)).add 1) w fun x35 =>
      sB1 n host sd i (x35 == sd) w) (
      sB1 n host sd i false w)) (
    R (-1 : Int) w)) = kstep Tryz.prog 40 Tryz.f69.results.toList (Tryz.f69.body.getD .skip) (hostm_Net_Find.RV R) (kvc Tryz.prog 40 Tryz.f69.results.toList (Tryz.f69.body.getD .skip) (hostm_Net_Find.RV R) [([(0, [1, 0, 1, 0, 0, 1, 0, 0, 1]), (1, [1]), (0, [1, 0, 1, 0, 0, 1, 1]), (2, [1, 0, 1, 0, 0]), (1, [0]), (0, [1, 1])], fun σ w => dP (slotOf σ 0) fun n_ => dI .i64 (slotOf σ 1) fun host_ => dI .i64 (slotOf σ 2) fun sd_ => dI .i64 (slotOf σ 7) fun i_ => dB (slotOf σ 38) fun t38_ => sB1 n_ host_ sd_ i_ t38_ w)] 2000) [(0, [1, 0, 1, 0, 0]), (2, [1, 0, 1, 0, 0]), (1, [0]), (0, [1, 1])] [(0, .pointer n), (1, .int .i64 host), (2, .int .i64 sd), (7, .int .i64 i)] w := by kernel_rfl
theorem hostm_Net_Find.L1b_sound {R : Int → World → Prop} {N1 : Option Addr → Int → Int → Int → World → Prop} (hN1 : ∀ n host sd i w, N1 n host sd i w → KW Tryz.prog 69 40 (hostm_Net_Find.RV R) ([(0, [1, 0, 1, 0, 0]), (2, [1, 0, 1, 0, 0]), (1, [0]), (0, [1, 1])].map (toItem (Tryz.f69.body.getD .skip))) [(0, .pointer n), (1, .int .i64 host), (2, .int .i64 sd), (7, .int .i64 i)] w) (n : Option Addr) (host sd i : Int) (w : World) (h : hostm_Net_Find.L1b n host sd i w  N1 R) :
    KW Tryz.prog 69 40 (hostm_Net_Find.RV R) ([(0, [1, 0, 1, 0, 0]), (2, [1, 0, 1, 0, 0]), (1, [0]), (0, [1, 1])].map (toItem (Tryz.f69.body.getD .skip))) [(0, .pointer n), (1, .int .i64 host), (2, .int .i64 sd), (7, .int .i64 i)] w := by
  exact block_spec Tryz.func69 Tryz.mixed (stops_cons (fun σ w h => by
      obtain ⟨n_, e0, h⟩ := dP_elim h
      obtain ⟨host_, e1, h⟩ := dI_elim h
      obtain ⟨sd_, e2, h⟩ := dI_elim h
      obtain ⟨i_, e3, h⟩ := dI_elim h
      obtain ⟨t38_, e4, h⟩ := dB_elim h
      exact (hostm_Net_Find.B1_sound hN1 n_ host_ sd_ i_ t38_ w h).weaken (Sub.cons (Sub.cons (Sub.cons (Sub.cons (Sub.cons (Sub.nil _) e4) e3) e2) e1) e0)) stops_nil) (Eq.mp (hostm_Net_Find.L1b_eq n host sd i w  N1 R (fun n_ host_ sd_ i_ t38_ w => hostm_Net_Find.B1 n_ host_ sd_ i_ t38_ w N1 R)) h)
def hostm_Net_Find.L1 (n : Option Addr) (host sd i : Int) (w : World)  (R : Int → World → Prop) : Prop :=
  ∃ (I : Nat → Option Addr → Int → Int → Int → World → Prop) (m : Nat), I m n host sd i w ∧ ∀ m n host sd i w, I m n host sd i w → hostm_Net_Find.L1b n host sd i w  (fun n' host' sd' i' w' => ∃ m', m' < m ∧ I m' n' host' sd' i' w') R
theorem hostm_Net_Find.L1_sound {R : Int → World → Prop}  (n : Option Addr) (host sd i : Int) (w : World) (h : hostm_Net_Find.L1 n host sd i w  R) :
    KW Tryz.prog 69 40 (hostm_Net_Find.RV R) ([(0, [1, 0, 1, 0, 0]), (2, [1, 0, 1, 0, 0]), (1, [0]), (0, [1, 1])].map (toItem (Tryz.f69.body.getD .skip))) [(0, .pointer n), (1, .int .i64 host), (2, .int .i64 sd), (7, .int .i64 i)] w := by
  obtain ⟨I, m, hBase, hr⟩ := h
  refine KW.loop (fun m σ w => ∃ (n : Option Addr) (host sd i : Int), σ = [(0, .pointer n), (1, .int .i64 host), (2, .int .i64 sd), (7, .int .i64 i)] ∧ I m n host sd i w) ?_ m _ w ⟨n, host, sd, i, rfl, hBase⟩
  rintro m ih σ w ⟨n, host, sd, i, rfl, hI⟩
  exact hostm_Net_Find.L1b_sound  (N1 := fun n' host' sd' i' w' => ∃ m', m' < m ∧ I m' n' host' sd' i' w') (fun n' host' sd' i' w' hx => by obtain ⟨m', hlt, hI'⟩ := hx; exact ih m' hlt _ w' ⟨n', host', sd', i', rfl, hI'⟩) n host sd i w (hr m n host sd i w hI)
def hostm_Net_Find.B0 (n : Option Addr) (host sd : Int) (w : World)   (R : Int → World → Prop) : Prop :=
  hostm_Net_Find.L1 n host sd (0 : Int) w  R
theorem hostm_Net_Find.B0_eq (n : Option Addr) (host sd : Int) (w : World)   (R : Int → World → Prop) (sL1 : Option Addr → Int → Int → Int → World → Prop) :
    (
  sL1 n host sd (0 : Int) w) = kstep Tryz.prog 40 Tryz.f69.results.toList (Tryz.f69.body.getD .skip) (hostm_Net_Find.RV R) (kvc Tryz.prog 40 Tryz.f69.results.toList (Tryz.f69.body.getD .skip) (hostm_Net_Find.RV R) [([(0, [1, 0, 1, 0, 0]), (2, [1, 0, 1, 0, 0]), (1, [0]), (0, [1, 1])], fun σ w => dP (slotOf σ 0) fun n_ => dI .i64 (slotOf σ 1) fun host_ => dI .i64 (slotOf σ 2) fun sd_ => dI .i64 (slotOf σ 7) fun i_ => sL1 n_ host_ sd_ i_ w)] 2000) [(0, [])] [(0, .pointer n), (1, .int .i64 host), (2, .int .i64 sd)] w := by kernel_rfl
theorem hostm_Net_Find.B0_sound {R : Int → World → Prop}  (n : Option Addr) (host sd : Int) (w : World) (h : hostm_Net_Find.B0 n host sd w   R) :
    KW Tryz.prog 69 40 (hostm_Net_Find.RV R) ([(0, [])].map (toItem (Tryz.f69.body.getD .skip))) [(0, .pointer n), (1, .int .i64 host), (2, .int .i64 sd)] w := by
  exact block_spec Tryz.func69 Tryz.mixed (stops_cons (fun σ w h => by
      obtain ⟨n_, e0, h⟩ := dP_elim h
      obtain ⟨host_, e1, h⟩ := dI_elim h
      obtain ⟨sd_, e2, h⟩ := dI_elim h
      obtain ⟨i_, e3, h⟩ := dI_elim h
      exact (hostm_Net_Find.L1_sound  n_ host_ sd_ i_ w h).weaken (Sub.cons (Sub.cons (Sub.cons (Sub.cons (Sub.nil _) e3) e2) e1) e0)) stops_nil) (Eq.mp (hostm_Net_Find.B0_eq n host sd w   R (fun n_ host_ sd_ i_ w => hostm_Net_Find.L1 n_ host_ sd_ i_ w  R)) h)
theorem hostm_Net_Find.sound (n : Option Addr) (host sd : Int) (w : World) (R : Int → World → Prop) (h : hostm_Net_Find.B0 n host sd w R) : hostm_Net_Find.Call n host sd w R := by
  have hc := calls_of_block (args := #[.pointer n, .int .i64 host, .int .i64 sd]) Tryz.func69 (body := (Tryz.f69.body.getD .skip)) (by kernel_rfl) (by kernel_rfl) (args_slot _) (hostm_Net_Find.B0_sound n host sd w h)
  exact hc.mono fun e w' he => by
    obtain ⟨v, rfl, hv⟩ := he
    exact hostm_Net_Find.RV_elim hv
def hostm_Net_latest.B1 (n : Option Addr) (host lport rhost rport : Int) (client : Bool) (i : Int) (t81 : Bool) (w : World) (N1 : Option Addr → Int → Int → Int → Int → Bool → Int → World → Prop)  (R : Int → World → Prop) : Prop :=
  Bm t81 (
    R i w) (
    N1 n host lport rhost rport client (IntKind.i64.wrap (i - (1 : Int))) w)
theorem hostm_Net_latest.B1_eq (n : Option Addr) (host lport rhost rport : Int) (client : Bool) (i : Int) (t81 : Bool) (w : World) (N1 : Option Addr → Int → Int → Int → Int → Bool → Int → World → Prop)  (R : Int → World → Prop)  :
    (
  Bm t81 (
    R i w) (
    N1 n host lport rhost rport client (IntKind.i64.wrap (i - (1 : Int))) w)) = kstep Tryz.prog 83 Tryz.f70.results.toList (Tryz.f70.body.getD .skip) (hostm_Net_latest.RV R) (kvc Tryz.prog 83 Tryz.f70.results.toList (Tryz.f70.body.getD .skip) (hostm_Net_latest.RV R) [([(0, [1, 0, 1, 0, 0]), (2, [1, 0, 1, 0, 0]), (1, [0]), (0, [1, 1])], fun σ w => dP (slotOf σ 0) fun n_ => dI .i64 (slotOf σ 1) fun host_ => dI .i64 (slotOf σ 2) fun lport_ => dI .i64 (slotOf σ 3) fun rhost_ => dI .i64 (slotOf σ 4) fun rport_ => dB (slotOf σ 5) fun client_ => dI .i64 (slotOf σ 13) fun i_ => N1 n_ host_ lport_ rhost_ rport_ client_ i_ w)] 2000) [(0, [1, 0, 1, 0, 0, 1, 0, 0, 1]), (1, [1]), (0, [1, 0, 1, 0, 0, 1, 1]), (2, [1, 0, 1, 0, 0]), (1, [0]), (0, [1, 1])] [(0, .pointer n), (1, .int .i64 host), (2, .int .i64 lport), (3, .int .i64 rhost), (4, .int .i64 rport), (5, .bool client), (13, .int .i64 i), (81, .bool t81)] w := by kernel_rfl
theorem hostm_Net_latest.B1_sound {R : Int → World → Prop} {N1 : Option Addr → Int → Int → Int → Int → Bool → Int → World → Prop} (hN1 : ∀ n host lport rhost rport client i w, N1 n host lport rhost rport client i w → KW Tryz.prog 70 83 (hostm_Net_latest.RV R) ([(0, [1, 0, 1, 0, 0]), (2, [1, 0, 1, 0, 0]), (1, [0]), (0, [1, 1])].map (toItem (Tryz.f70.body.getD .skip))) [(0, .pointer n), (1, .int .i64 host), (2, .int .i64 lport), (3, .int .i64 rhost), (4, .int .i64 rport), (5, .bool client), (13, .int .i64 i)] w) (n : Option Addr) (host lport rhost rport : Int) (client : Bool) (i : Int) (t81 : Bool) (w : World) (h : hostm_Net_latest.B1 n host lport rhost rport client i t81 w N1  R) :
    KW Tryz.prog 70 83 (hostm_Net_latest.RV R) ([(0, [1, 0, 1, 0, 0, 1, 0, 0, 1]), (1, [1]), (0, [1, 0, 1, 0, 0, 1, 1]), (2, [1, 0, 1, 0, 0]), (1, [0]), (0, [1, 1])].map (toItem (Tryz.f70.body.getD .skip))) [(0, .pointer n), (1, .int .i64 host), (2, .int .i64 lport), (3, .int .i64 rhost), (4, .int .i64 rport), (5, .bool client), (13, .int .i64 i), (81, .bool t81)] w := by
  exact block_spec Tryz.func70 Tryz.mixed (stops_cons (fun σ w h => by
      obtain ⟨n_, e0, h⟩ := dP_elim h
      obtain ⟨host_, e1, h⟩ := dI_elim h
      obtain ⟨lport_, e2, h⟩ := dI_elim h
      obtain ⟨rhost_, e3, h⟩ := dI_elim h
      obtain ⟨rport_, e4, h⟩ := dI_elim h
      obtain ⟨client_, e5, h⟩ := dB_elim h
      obtain ⟨i_, e6, h⟩ := dI_elim h
      exact (hN1 n_ host_ lport_ rhost_ rport_ client_ i_ w h).weaken (Sub.cons (Sub.cons (Sub.cons (Sub.cons (Sub.cons (Sub.cons (Sub.cons (Sub.nil _) e6) e5) e4) e3) e2) e1) e0)) stops_nil) (Eq.mp (hostm_Net_latest.B1_eq n host lport rhost rport client i t81 w N1  R ) h)
def hostm_Net_latest.L1b (n : Option Addr) (host lport rhost rport : Int) (client : Bool) (i : Int) (w : World)  (N1 : Option Addr → Int → Int → Int → Int → Bool → Int → World → Prop) (R : Int → World → Prop) : Prop :=
  Bm (decide (i ≥ (0 : Int))) (
    Pn n fun a =>
    LdL a w fun x27_b x27_l x27_c =>
    Pn x27_b fun a_1 =>
    (0 ≤ i ∧ i < ((x27_l : Nat) : Int)) ∧
    LdI .i64 (Addr.add a_1 (i.toNat * 16)) w fun x31 =>
    Bm (x31 == host) (
      Pn n fun a_2 =>
      LdL a_2 w fun x38_b x38_l x38_c =>
      Pn x38_b fun a_3 =>
      (0 ≤ i ∧ i < ((x38_l : Nat) : Int)) ∧
      LdI .i64 ((Addr.add a_3 (i.toNat * 16)).add 2) w fun x42 =>
      Bm (x42 == lport) (
        Pn n fun a_4 =>
        LdL a_4 w fun x50_b x50_l x50_c =>
        Pn x50_b fun a_5 =>
        (0 ≤ i ∧ i < ((x50_l : Nat) : Int)) ∧
        LdI .i64 ((Addr.add a_5 (i.toNat * 16)).add 3) w fun x54 =>
        Bm (x54 == rhost) (
          Pn n fun a_6 =>
          LdL a_6 w fun x62_b x62_l x62_c =>
          Pn x62_b fun a_7 =>
          (0 ≤ i ∧ i < ((x62_l : Nat) : Int)) ∧
          LdI .i64 ((Addr.add a_7 (i.toNat * 16)).add 4) w fun x66 =>
          Bm (x66 == rport) (
            Pn n fun a_8 =>
            LdL a_8 w fun x74_b x74_l x74_c =>
            Pn x74_b fun a_9 =>
            (0 ≤ i ∧ i < ((x74_l : Nat) : Int)) ∧
            LdB ((Addr.add a_9 (i.toNat * 16)).add 5) w fun x78 =>
            hostm_Net_latest.B1 n host lport rhost rport client i (x78 == client) w N1 R) (
            hostm_Net_latest.B1 n host lport rhost rport client i false w N1 R)) (
          hostm_Net_latest.B1 n host lport rhost rport client i false w N1 R)) (
        hostm_Net_latest.B1 n host lport rhost rport client i false w N1 R)) (
      hostm_Net_latest.B1 n host lport rhost rport client i false w N1 R)) (
    R (-1 : Int) w)
theorem hostm_Net_latest.L1b_eq (n : Option Addr) (host lport rhost rport : Int) (client : Bool) (i : Int) (w : World)  (N1 : Option Addr → Int → Int → Int → Int → Bool → Int → World → Prop) (R : Int → World → Prop) (sB1 : Option Addr → Int → Int → Int → Int → Bool → Int → Bool → World → Prop) :
    (
  Bm (decide (i ≥ (0 : Int))) (
    Pn n fun a =>
    LdL a w fun x27_b x27_l x27_c =>
    Pn x27_b fun a_1 =>
    (0 ≤ i ∧ i < ((x27_l : Nat) : Int)) ∧
    LdI .i64 (Addr.add a_1 (i.toNat * 16)) w fun x31 =>
    Bm (x31 == host) (
      Pn n fun a_2 =>
      LdL a_2 w fun x38_b x38_l x38_c =>
      Pn x38_b fun a_3 =>
      (0 ≤ i ∧ i < ((x38_l : Nat) : Int)) ∧
      LdI .i64 ((Addr.add a_3 (i.toNat * 16)).add 2) w fun x42 =>
      Bm (x42 == lport) (
        Pn n fun a_4 =>
        LdL a_4 w fun x50_b x50_l x50_c =>
        Pn x50_b fun a_5 =>
        (0 ≤ i ∧ i < ((x50_l : Nat) : Int)) ∧
        LdI .i64 ((Addr.add a_5 (i.toNat * 16)).add 3) w fun x54 =>
        Bm (x54 == rhost) (
          Pn n fun a_6 =>
          LdL a_6 w fun x62_b x62_l x62_c =>
          Pn x62_b fun a_7 =>
          (0 ≤ i ∧ i < ((x62_l : Nat) : Int)) ∧
          LdI .i64 ((Addr.add a_7 (i.toNat * 16)).add 4) w fun x66 =>
          Bm (x66 == rport) (
            Pn n fun a_8 =>
            LdL a_8 w fun x74_b x74_l x74_c =>
            Pn x74_b fun a_9 =>
            (0 ≤ i ∧ i < ((x74_l : Nat) : Int)) ∧
            LdB ((Addr.add a_9 (i.toNat * 16)).add 5) w fun x78 =>
            sB1 n host lport rhost rport client i (x78 == client) w) (
            sB1 n host lport rhost rport client i false w)) (
          sB1 n host lport rhost rport client i false w)) (
        sB1 n host lport rhost rport client i false w)) (
      sB1 n host lport rhost rport client i false w)) (
    R (-1 : Int) w)) = kstep Tryz.prog 83 Tryz.f70.results.toList (Tryz.f70.body.getD .skip) (hostm_Net_latest.RV R) (kvc Tryz.prog 83 Tryz.f70.results.toList (Tryz.f70.body.getD .skip) (hostm_Net_latest.RV R) [([(0, [1, 0, 1, 0, 0, 1, 0, 0, 1]), (1, [1]), (0, [1, 0, 1, 0, 0, 1, 1]), (2, [1, 0, 1, 0, 0]), (1, [0]), (0, [1, 1])], fun σ w => dP (slotOf σ 0) fun n_ => dI .i64 (slotOf σ 1) fun host_ => dI .i64 (slotOf σ 2) fun lport_ => dI .i64 (slotOf σ 3) fun rhost_ => dI .i64 (slotOf σ 4) fun rport_ => dB (slotOf σ 5) fun client_ => dI .i64 (slotOf σ 13) fun i_ => dB (slotOf σ 81) fun t81_ => sB1 n_ host_ lport_ rhost_ rport_ client_ i_ t81_ w)] 2000) [(0, [1, 0, 1, 0, 0]), (2, [1, 0, 1, 0, 0]), (1, [0]), (0, [1, 1])] [(0, .pointer n), (1, .int .i64 host), (2, .int .i64 lport), (3, .int .i64 rhost), (4, .int .i64 rport), (5, .bool client), (13, .int .i64 i)] w := by kernel_rfl
theorem hostm_Net_latest.L1b_sound {R : Int → World → Prop} {N1 : Option Addr → Int → Int → Int → Int → Bool → Int → World → Prop} (hN1 : ∀ n host lport rhost rport client i w, N1 n host lport rhost rport client i w → KW Tryz.prog 70 83 (hostm_Net_latest.RV R) ([(0, [1, 0, 1, 0, 0]), (2, [1, 0, 1, 0, 0]), (1, [0]), (0, [1, 1])].map (toItem (Tryz.f70.body.getD .skip))) [(0, .pointer n), (1, .int .i64 host), (2, .int .i64 lport), (3, .int .i64 rhost), (4, .int .i64 rport), (5, .bool client), (13, .int .i64 i)] w) (n : Option Addr) (host lport rhost rport : Int) (client : Bool) (i : Int) (w : World) (h : hostm_Net_latest.L1b n host lport rhost rport client i w  N1 R) :
    KW Tryz.prog 70 83 (hostm_Net_latest.RV R) ([(0, [1, 0, 1, 0, 0]), (2, [1, 0, 1, 0, 0]), (1, [0]), (0, [1, 1])].map (toItem (Tryz.f70.body.getD .skip))) [(0, .pointer n), (1, .int .i64 host), (2, .int .i64 lport), (3, .int .i64 rhost), (4, .int .i64 rport), (5, .bool client), (13, .int .i64 i)] w := by
  exact block_spec Tryz.func70 Tryz.mixed (stops_cons (fun σ w h => by
      obtain ⟨n_, e0, h⟩ := dP_elim h
      obtain ⟨host_, e1, h⟩ := dI_elim h
      obtain ⟨lport_, e2, h⟩ := dI_elim h
      obtain ⟨rhost_, e3, h⟩ := dI_elim h
      obtain ⟨rport_, e4, h⟩ := dI_elim h
      obtain ⟨client_, e5, h⟩ := dB_elim h
      obtain ⟨i_, e6, h⟩ := dI_elim h
      obtain ⟨t81_, e7, h⟩ := dB_elim h
      exact (hostm_Net_latest.B1_sound hN1 n_ host_ lport_ rhost_ rport_ client_ i_ t81_ w h).weaken (Sub.cons (Sub.cons (Sub.cons (Sub.cons (Sub.cons (Sub.cons (Sub.cons (Sub.cons (Sub.nil _) e7) e6) e5) e4) e3) e2) e1) e0)) stops_nil) (Eq.mp (hostm_Net_latest.L1b_eq n host lport rhost rport client i w  N1 R (fun n_ host_ lport_ rhost_ rport_ client_ i_ t81_ w => hostm_Net_latest.B1 n_ host_ lport_ rhost_ rport_ client_ i_ t81_ w N1 R)) h)
def hostm_Net_latest.L1 (n : Option Addr) (host lport rhost rport : Int) (client : Bool) (i : Int) (w : World)  (R : Int → World → Prop) : Prop :=
  ∃ (I : Nat → Option Addr → Int → Int → Int → Int → Bool → Int → World → Prop) (m : Nat), I m n host lport rhost rport client i w ∧ ∀ m n host lport rhost rport client i w, I m n host lport rhost rport client i w → hostm_Net_latest.L1b n host lport rhost rport client i w  (fun n' host' lport' rhost' rport' client' i' w' => ∃ m', m' < m ∧ I m' n' host' lport' rhost' rport' client' i' w') R
theorem hostm_Net_latest.L1_sound {R : Int → World → Prop}  (n : Option Addr) (host lport rhost rport : Int) (client : Bool) (i : Int) (w : World) (h : hostm_Net_latest.L1 n host lport rhost rport client i w  R) :
    KW Tryz.prog 70 83 (hostm_Net_latest.RV R) ([(0, [1, 0, 1, 0, 0]), (2, [1, 0, 1, 0, 0]), (1, [0]), (0, [1, 1])].map (toItem (Tryz.f70.body.getD .skip))) [(0, .pointer n), (1, .int .i64 host), (2, .int .i64 lport), (3, .int .i64 rhost), (4, .int .i64 rport), (5, .bool client), (13, .int .i64 i)] w := by
  obtain ⟨I, m, hBase, hr⟩ := h
  refine KW.loop (fun m σ w => ∃ (n : Option Addr) (host lport rhost rport : Int) (client : Bool) (i : Int), σ = [(0, .pointer n), (1, .int .i64 host), (2, .int .i64 lport), (3, .int .i64 rhost), (4, .int .i64 rport), (5, .bool client), (13, .int .i64 i)] ∧ I m n host lport rhost rport client i w) ?_ m _ w ⟨n, host, lport, rhost, rport, client, i, rfl, hBase⟩
  rintro m ih σ w ⟨n, host, lport, rhost, rport, client, i, rfl, hI⟩
  exact hostm_Net_latest.L1b_sound  (N1 := fun n' host' lport' rhost' rport' client' i' w' => ∃ m', m' < m ∧ I m' n' host' lport' rhost' rport' client' i' w') (fun n' host' lport' rhost' rport' client' i' w' hx => by obtain ⟨m', hlt, hI'⟩ := hx; exact ih m' hlt _ w' ⟨n', host', lport', rhost', rport', client', i', rfl, hI'⟩) n host lport rhost rport client i w (hr m n host lport rhost rport client i w hI)
def hostm_Net_latest.B0 (n : Option Addr) (host lport rhost rport : Int) (client : Bool) (w : World)   (R : Int → World → Prop) : Prop :=
  Pn n fun a =>
  LdL a w fun x17_b x17_l x17_c =>
  hostm_Net_latest.L1 n host lport rhost rport client (IntKind.i64.wrap (((x17_l : Nat) : Int) - (1 : Int))) w  R
theorem hostm_Net_latest.B0_eq (n : Option Addr) (host lport rhost rport : Int) (client : Bool) (w : World)   (R : Int → World → Prop) (sL1 : Option Addr → Int → Int → Int → Int → Bool → Int → World → Prop) :
    (
  Pn n fun a =>
  LdL a w fun x17_b x17_l x17_c =>
  sL1 n host lport rhost rport client (IntKind.i64.wrap (((x17_l : Nat) : Int) - (1 : Int))) w) = kstep Tryz.prog 83 Tryz.f70.results.toList (Tryz.f70.body.getD .skip) (hostm_Net_latest.RV R) (kvc Tryz.prog 83 Tryz.f70.results.toList (Tryz.f70.body.getD .skip) (hostm_Net_latest.RV R) [([(0, [1, 0, 1, 0, 0]), (2, [1, 0, 1, 0, 0]), (1, [0]), (0, [1, 1])], fun σ w => dP (slotOf σ 0) fun n_ => dI .i64 (slotOf σ 1) fun host_ => dI .i64 (slotOf σ 2) fun lport_ => dI .i64 (slotOf σ 3) fun rhost_ => dI .i64 (slotOf σ 4) fun rport_ => dB (slotOf σ 5) fun client_ => dI .i64 (slotOf σ 13) fun i_ => sL1 n_ host_ lport_ rhost_ rport_ client_ i_ w)] 2000) [(0, [])] [(0, .pointer n), (1, .int .i64 host), (2, .int .i64 lport), (3, .int .i64 rhost), (4, .int .i64 rport), (5, .bool client)] w := by kernel_rfl
theorem hostm_Net_latest.B0_sound {R : Int → World → Prop}  (n : Option Addr) (host lport rhost rport : Int) (client : Bool) (w : World) (h : hostm_Net_latest.B0 n host lport rhost rport client w   R) :
    KW Tryz.prog 70 83 (hostm_Net_latest.RV R) ([(0, [])].map (toItem (Tryz.f70.body.getD .skip))) [(0, .pointer n), (1, .int .i64 host), (2, .int .i64 lport), (3, .int .i64 rhost), (4, .int .i64 rport), (5, .bool client)] w := by
  exact block_spec Tryz.func70 Tryz.mixed (stops_cons (fun σ w h => by
      obtain ⟨n_, e0, h⟩ := dP_elim h
      obtain ⟨host_, e1, h⟩ := dI_elim h
      obtain ⟨lport_, e2, h⟩ := dI_elim h
      obtain ⟨rhost_, e3, h⟩ := dI_elim h
      obtain ⟨rport_, e4, h⟩ := dI_elim h
      obtain ⟨client_, e5, h⟩ := dB_elim h
      obtain ⟨i_, e6, h⟩ := dI_elim h
      exact (hostm_Net_latest.L1_sound  n_ host_ lport_ rhost_ rport_ client_ i_ w h).weaken (Sub.cons (Sub.cons (Sub.cons (Sub.cons (Sub.cons (Sub.cons (Sub.cons (Sub.nil _) e6) e5) e4) e3) e2) e1) e0)) stops_nil) (Eq.mp (hostm_Net_latest.B0_eq n host lport rhost rport client w   R (fun n_ host_ lport_ rhost_ rport_ client_ i_ w => hostm_Net_latest.L1 n_ host_ lport_ rhost_ rport_ client_ i_ w  R)) h)
theorem hostm_Net_latest.sound (n : Option Addr) (host lport rhost rport : Int) (client : Bool) (w : World) (R : Int → World → Prop) (h : hostm_Net_latest.B0 n host lport rhost rport client w R) : hostm_Net_latest.Call n host lport rhost rport client w R := by
  have hc := calls_of_block (args := #[.pointer n, .int .i64 host, .int .i64 lport, .int .i64 rhost, .int .i64 rport, .bool client]) Tryz.func70 (body := (Tryz.f70.body.getD .skip)) (by kernel_rfl) (by kernel_rfl) (args_slot _) (hostm_Net_latest.B0_sound n host lport rhost rport client w h)
  exact hc.mono fun e w' he => by
    obtain ⟨v, rfl, hv⟩ := he
    exact hostm_Net_latest.RV_elim hv
def hostm_MayStep.B1 (to0 t8 : Int) (t9 : Bool) (w : World)   (R : Bool → World → Prop) : Prop :=
  Bm t9 (
    Bm (to0 == (3 : Int)) (
      R true w) (
      R (to0 == (4 : Int)) w)) (
    Bm (t8 == (3 : Int)) (
      R (to0 == (4 : Int)) w) (
      R false w))
theorem hostm_MayStep.B1_eq (to0 t8 : Int) (t9 : Bool) (w : World)   (R : Bool → World → Prop)  :
    (
  Bm t9 (
    Bm (to0 == (3 : Int)) (
      R true w) (
      R (to0 == (4 : Int)) w)) (
    Bm (t8 == (3 : Int)) (
      R (to0 == (4 : Int)) w) (
      R false w))) = kstep Tryz.prog 22 Tryz.f71.results.toList (Tryz.f71.body.getD .skip) (hostm_MayStep.RV R) (kvc Tryz.prog 22 Tryz.f71.results.toList (Tryz.f71.body.getD .skip) (hostm_MayStep.RV R) [] 2000) [(0, [1, 1, 0, 1, 0, 1]), (1, [0]), (0, [1, 1, 1])] [(1, .int .i64 to0), (8, .int .i64 t8), (9, .bool t9)] w := by kernel_rfl
theorem hostm_MayStep.B1_sound {R : Bool → World → Prop}  (to0 t8 : Int) (t9 : Bool) (w : World) (h : hostm_MayStep.B1 to0 t8 t9 w   R) :
    KW Tryz.prog 71 22 (hostm_MayStep.RV R) ([(0, [1, 1, 0, 1, 0, 1]), (1, [0]), (0, [1, 1, 1])].map (toItem (Tryz.f71.body.getD .skip))) [(1, .int .i64 to0), (8, .int .i64 t8), (9, .bool t9)] w := by
  exact block_spec Tryz.func71 Tryz.mixed stops_nil (Eq.mp (hostm_MayStep.B1_eq to0 t8 t9 w   R ) h)
def hostm_MayStep.B0 (from0 to0 : Int) (w : World)   (R : Bool → World → Prop) : Prop :=
  Bm (from0 == to0) (
    R true w) (
    Bm (from0 == (1 : Int)) (
      hostm_MayStep.B1 to0 from0 (from0 == (1 : Int)) w  R) (
      hostm_MayStep.B1 to0 from0 (from0 == (2 : Int)) w  R))
theorem hostm_MayStep.B0_eq (from0 to0 : Int) (w : World)   (R : Bool → World → Prop) (sB1 : Int → Int → Bool → World → Prop) :
    (
  Bm (from0 == to0) (
    R true w) (
    Bm (from0 == (1 : Int)) (
      sB1 to0 from0 (from0 == (1 : Int)) w) (
      sB1 to0 from0 (from0 == (2 : Int)) w))) = kstep Tryz.prog 22 Tryz.f71.results.toList (Tryz.f71.body.getD .skip) (hostm_MayStep.RV R) (kvc Tryz.prog 22 Tryz.f71.results.toList (Tryz.f71.body.getD .skip) (hostm_MayStep.RV R) [([(0, [1, 1, 0, 1, 0, 1]), (1, [0]), (0, [1, 1, 1])], fun σ w => dI .i64 (slotOf σ 1) fun to0_ => dI .i64 (slotOf σ 8) fun t8_ => dB (slotOf σ 9) fun t9_ => sB1 to0_ t8_ t9_ w)] 2000) [(0, [])] [(0, .int .i64 from0), (1, .int .i64 to0)] w := by kernel_rfl
theorem hostm_MayStep.B0_sound {R : Bool → World → Prop}  (from0 to0 : Int) (w : World) (h : hostm_MayStep.B0 from0 to0 w   R) :
    KW Tryz.prog 71 22 (hostm_MayStep.RV R) ([(0, [])].map (toItem (Tryz.f71.body.getD .skip))) [(0, .int .i64 from0), (1, .int .i64 to0)] w := by
  exact block_spec Tryz.func71 Tryz.mixed (stops_cons (fun σ w h => by
      obtain ⟨to0_, e0, h⟩ := dI_elim h
      obtain ⟨t8_, e1, h⟩ := dI_elim h
      obtain ⟨t9_, e2, h⟩ := dB_elim h
      exact (hostm_MayStep.B1_sound  to0_ t8_ t9_ w h).weaken (Sub.cons (Sub.cons (Sub.cons (Sub.nil _) e2) e1) e0)) stops_nil) (Eq.mp (hostm_MayStep.B0_eq from0 to0 w   R (fun to0_ t8_ t9_ w => hostm_MayStep.B1 to0_ t8_ t9_ w  R)) h)
theorem hostm_MayStep.sound (from0 to0 : Int) (w : World) (R : Bool → World → Prop) (h : hostm_MayStep.B0 from0 to0 w R) : hostm_MayStep.Call from0 to0 w R := by
  have hc := calls_of_block (args := #[.int .i64 from0, .int .i64 to0]) Tryz.func71 (body := (Tryz.f71.body.getD .skip)) (by kernel_rfl) (by kernel_rfl) (args_slot _) (hostm_MayStep.B0_sound from0 to0 w h)
  exact hc.mono fun e w' he => by
    obtain ⟨v, rfl, hv⟩ := he
    exact hostm_MayStep.RV_elim hv
def hostlaw_SameInts.L1b (a_b : Option Addr) (a_l a_c : Nat) (b_b : Option Addr) (b_l b_c : Nat) (i : Int) (w : World)  (N1 : Option Addr → Nat → Nat → Option Addr → Nat → Nat → Int → World → Prop) (R : Bool → World → Prop) : Prop :=
  Bm (decide (i < ((a_l : Nat) : Int))) (
    Pn a_b fun a =>
    (0 ≤ i ∧ i < ((a_l : Nat) : Int)) ∧
    LdI .i64 (Addr.add a (i.toNat * 1)) w.drew fun x20 =>
    Pn b_b fun a_1 =>
    (0 ≤ i ∧ i < ((b_l : Nat) : Int)) ∧
    LdI .i64 (Addr.add a_1 (i.toNat * 1)) w.drew fun x24 =>
    Bm (x20 != x24) (
      R false w.drew) (
      N1 a_b a_l a_c b_b b_l b_c (IntKind.i64.wrap (i + (1 : Int))) w.drew)) (
    R true w)
theorem hostlaw_SameInts.L1b_eq (a_b : Option Addr) (a_l a_c : Nat) (b_b : Option Addr) (b_l b_c : Nat) (i : Int) (w : World)  (N1 : Option Addr → Nat → Nat → Option Addr → Nat → Nat → Int → World → Prop) (R : Bool → World → Prop)  :
    (
  Bm (decide (i < ((a_l : Nat) : Int))) (
    Pn a_b fun a =>
    (0 ≤ i ∧ i < ((a_l : Nat) : Int)) ∧
    LdI .i64 (Addr.add a (i.toNat * 1)) w.drew fun x20 =>
    Pn b_b fun a_1 =>
    (0 ≤ i ∧ i < ((b_l : Nat) : Int)) ∧
    LdI .i64 (Addr.add a_1 (i.toNat * 1)) w.drew fun x24 =>
    Bm (x20 != x24) (
      R false w.drew) (
      N1 a_b a_l a_c b_b b_l b_c (IntKind.i64.wrap (i + (1 : Int))) w.drew)) (
    R true w)) = kstep Tryz.prog 26 Tryz.f72.results.toList (Tryz.f72.body.getD .skip) (hostlaw_SameInts.RV R) (kvc Tryz.prog 26 Tryz.f72.results.toList (Tryz.f72.body.getD .skip) (hostlaw_SameInts.RV R) [([(0, [1, 1, 0, 1, 0, 0]), (2, [1, 1, 0, 1, 0, 0]), (1, [0]), (0, [1, 1, 1])], fun σ w => dL (slotOf σ 0) fun a_b_ a_l_ a_c_ => dL (slotOf σ 1) fun b_b_ b_l_ b_c_ => dI .i64 (slotOf σ 5) fun i_ => N1 a_b_ a_l_ a_c_ b_b_ b_l_ b_c_ i_ w)] 2000) [(0, [1, 1, 0, 1, 0, 0]), (2, [1, 1, 0, 1, 0, 0]), (1, [0]), (0, [1, 1, 1])] [(0, .slice a_b a_l a_c), (1, .slice b_b b_l b_c), (5, .int .i64 i)] w := by kernel_rfl
theorem hostlaw_SameInts.L1b_sound {R : Bool → World → Prop} {N1 : Option Addr → Nat → Nat → Option Addr → Nat → Nat → Int → World → Prop} (hN1 : ∀ a_b a_l a_c b_b b_l b_c i w, N1 a_b a_l a_c b_b b_l b_c i w → KW Tryz.prog 72 26 (hostlaw_SameInts.RV R) ([(0, [1, 1, 0, 1, 0, 0]), (2, [1, 1, 0, 1, 0, 0]), (1, [0]), (0, [1, 1, 1])].map (toItem (Tryz.f72.body.getD .skip))) [(0, .slice a_b a_l a_c), (1, .slice b_b b_l b_c), (5, .int .i64 i)] w) (a_b : Option Addr) (a_l a_c : Nat) (b_b : Option Addr) (b_l b_c : Nat) (i : Int) (w : World) (h : hostlaw_SameInts.L1b a_b a_l a_c b_b b_l b_c i w  N1 R) :
    KW Tryz.prog 72 26 (hostlaw_SameInts.RV R) ([(0, [1, 1, 0, 1, 0, 0]), (2, [1, 1, 0, 1, 0, 0]), (1, [0]), (0, [1, 1, 1])].map (toItem (Tryz.f72.body.getD .skip))) [(0, .slice a_b a_l a_c), (1, .slice b_b b_l b_c), (5, .int .i64 i)] w := by
  exact block_spec Tryz.func72 Tryz.mixed (stops_cons (fun σ w h => by
      obtain ⟨a_b_, a_l_, a_c_, e0, h⟩ := dL_elim h
      obtain ⟨b_b_, b_l_, b_c_, e1, h⟩ := dL_elim h
      obtain ⟨i_, e2, h⟩ := dI_elim h
      exact (hN1 a_b_ a_l_ a_c_ b_b_ b_l_ b_c_ i_ w h).weaken (Sub.cons (Sub.cons (Sub.cons (Sub.nil _) e2) e1) e0)) stops_nil) (Eq.mp (hostlaw_SameInts.L1b_eq a_b a_l a_c b_b b_l b_c i w  N1 R ) h)
def hostlaw_SameInts.L1 (a_b : Option Addr) (a_l a_c : Nat) (b_b : Option Addr) (b_l b_c : Nat) (i : Int) (w : World)  (R : Bool → World → Prop) : Prop :=
  ∃ (I : Nat → Option Addr → Nat → Nat → Option Addr → Nat → Nat → Int → World → Prop) (m : Nat), I m a_b a_l a_c b_b b_l b_c i w ∧ ∀ m a_b a_l a_c b_b b_l b_c i w, I m a_b a_l a_c b_b b_l b_c i w → hostlaw_SameInts.L1b a_b a_l a_c b_b b_l b_c i w  (fun a_b' a_l' a_c' b_b' b_l' b_c' i' w' => ∃ m', m' < m ∧ I m' a_b' a_l' a_c' b_b' b_l' b_c' i' w') R
theorem hostlaw_SameInts.L1_sound {R : Bool → World → Prop}  (a_b : Option Addr) (a_l a_c : Nat) (b_b : Option Addr) (b_l b_c : Nat) (i : Int) (w : World) (h : hostlaw_SameInts.L1 a_b a_l a_c b_b b_l b_c i w  R) :
    KW Tryz.prog 72 26 (hostlaw_SameInts.RV R) ([(0, [1, 1, 0, 1, 0, 0]), (2, [1, 1, 0, 1, 0, 0]), (1, [0]), (0, [1, 1, 1])].map (toItem (Tryz.f72.body.getD .skip))) [(0, .slice a_b a_l a_c), (1, .slice b_b b_l b_c), (5, .int .i64 i)] w := by
  obtain ⟨I, m, hBase, hr⟩ := h
  refine KW.loop (fun m σ w => ∃ (a_b : Option Addr) (a_l a_c : Nat) (b_b : Option Addr) (b_l b_c : Nat) (i : Int), σ = [(0, .slice a_b a_l a_c), (1, .slice b_b b_l b_c), (5, .int .i64 i)] ∧ I m a_b a_l a_c b_b b_l b_c i w) ?_ m _ w ⟨a_b, a_l, a_c, b_b, b_l, b_c, i, rfl, hBase⟩
  rintro m ih σ w ⟨a_b, a_l, a_c, b_b, b_l, b_c, i, rfl, hI⟩
  exact hostlaw_SameInts.L1b_sound  (N1 := fun a_b' a_l' a_c' b_b' b_l' b_c' i' w' => ∃ m', m' < m ∧ I m' a_b' a_l' a_c' b_b' b_l' b_c' i' w') (fun a_b' a_l' a_c' b_b' b_l' b_c' i' w' hx => by obtain ⟨m', hlt, hI'⟩ := hx; exact ih m' hlt _ w' ⟨a_b', a_l', a_c', b_b', b_l', b_c', i', rfl, hI'⟩) a_b a_l a_c b_b b_l b_c i w (hr m a_b a_l a_c b_b b_l b_c i w hI)
def hostlaw_SameInts.B0 (a_b : Option Addr) (a_l a_c : Nat) (b_b : Option Addr) (b_l b_c : Nat) (w : World)   (R : Bool → World → Prop) : Prop :=
  Bm (((a_l : Nat) : Int) != ((b_l : Nat) : Int)) (
    R false w) (
    hostlaw_SameInts.L1 a_b a_l a_c b_b b_l b_c (0 : Int) w  R)
theorem hostlaw_SameInts.B0_eq (a_b : Option Addr) (a_l a_c : Nat) (b_b : Option Addr) (b_l b_c : Nat) (w : World)   (R : Bool → World → Prop) (sL1 : Option Addr → Nat → Nat → Option Addr → Nat → Nat → Int → World → Prop) :
    (
  Bm (((a_l : Nat) : Int) != ((b_l : Nat) : Int)) (
    R false w) (
    sL1 a_b a_l a_c b_b b_l b_c (0 : Int) w)) = kstep Tryz.prog 26 Tryz.f72.results.toList (Tryz.f72.body.getD .skip) (hostlaw_SameInts.RV R) (kvc Tryz.prog 26 Tryz.f72.results.toList (Tryz.f72.body.getD .skip) (hostlaw_SameInts.RV R) [([(0, [1, 1, 0, 1, 0, 0]), (2, [1, 1, 0, 1, 0, 0]), (1, [0]), (0, [1, 1, 1])], fun σ w => dL (slotOf σ 0) fun a_b_ a_l_ a_c_ => dL (slotOf σ 1) fun b_b_ b_l_ b_c_ => dI .i64 (slotOf σ 5) fun i_ => sL1 a_b_ a_l_ a_c_ b_b_ b_l_ b_c_ i_ w)] 2000) [(0, [])] [(0, .slice a_b a_l a_c), (1, .slice b_b b_l b_c)] w := by kernel_rfl
theorem hostlaw_SameInts.B0_sound {R : Bool → World → Prop}  (a_b : Option Addr) (a_l a_c : Nat) (b_b : Option Addr) (b_l b_c : Nat) (w : World) (h : hostlaw_SameInts.B0 a_b a_l a_c b_b b_l b_c w   R) :
    KW Tryz.prog 72 26 (hostlaw_SameInts.RV R) ([(0, [])].map (toItem (Tryz.f72.body.getD .skip))) [(0, .slice a_b a_l a_c), (1, .slice b_b b_l b_c)] w := by
  exact block_spec Tryz.func72 Tryz.mixed (stops_cons (fun σ w h => by
      obtain ⟨a_b_, a_l_, a_c_, e0, h⟩ := dL_elim h
      obtain ⟨b_b_, b_l_, b_c_, e1, h⟩ := dL_elim h
      obtain ⟨i_, e2, h⟩ := dI_elim h
      exact (hostlaw_SameInts.L1_sound  a_b_ a_l_ a_c_ b_b_ b_l_ b_c_ i_ w h).weaken (Sub.cons (Sub.cons (Sub.cons (Sub.nil _) e2) e1) e0)) stops_nil) (Eq.mp (hostlaw_SameInts.B0_eq a_b a_l a_c b_b b_l b_c w   R (fun a_b_ a_l_ a_c_ b_b_ b_l_ b_c_ i_ w => hostlaw_SameInts.L1 a_b_ a_l_ a_c_ b_b_ b_l_ b_c_ i_ w  R)) h)
theorem hostlaw_SameInts.sound (a_b : Option Addr) (a_l a_c : Nat) (b_b : Option Addr) (b_l b_c : Nat) (w : World) (R : Bool → World → Prop) (h : hostlaw_SameInts.B0 a_b a_l a_c b_b b_l b_c w R) : hostlaw_SameInts.Call a_b a_l a_c b_b b_l b_c w R := by
  have hc := calls_of_block (args := #[.slice a_b a_l a_c, .slice b_b b_l b_c]) Tryz.func72 (body := (Tryz.f72.body.getD .skip)) (by kernel_rfl) (by kernel_rfl) (args_slot _) (hostlaw_SameInts.B0_sound a_b a_l a_c b_b b_l b_c w h)
  exact hc.mono fun e w' he => by
    obtain ⟨v, rfl, hv⟩ := he
    exact hostlaw_SameInts.RV_elim hv
def hostlaw_SameEntry.B1 (a b : Nat) (t37 : Bool) (w : World)   (R : Bool → World → Prop) : Prop :=
  Bm t37 (
    R false w) (
    LdI .i64 ⟨a, 2, none⟩ w fun x39 =>
    LdI .i64 ⟨b, 2, none⟩ w fun x41 =>
    Bm (x39 == x41) (
      LdI .i64 ⟨a, 3, none⟩ w fun x45 =>
      LdI .i64 ⟨b, 3, none⟩ w fun x47 =>
      Bm (x45 == x47) (
        LdI .i64 ⟨a, 4, none⟩ w fun x52 =>
        LdI .i64 ⟨b, 4, none⟩ w fun x54 =>
        R (x52 == x54) w) (
        R false w)) (
      R false w))
theorem hostlaw_SameEntry.B1_eq (a b : Nat) (t37 : Bool) (w : World)   (R : Bool → World → Prop)  :
    (
  Bm t37 (
    R false w) (
    LdI .i64 ⟨a, 2, none⟩ w fun x39 =>
    LdI .i64 ⟨b, 2, none⟩ w fun x41 =>
    Bm (x39 == x41) (
      LdI .i64 ⟨a, 3, none⟩ w fun x45 =>
      LdI .i64 ⟨b, 3, none⟩ w fun x47 =>
      Bm (x45 == x47) (
        LdI .i64 ⟨a, 4, none⟩ w fun x52 =>
        LdI .i64 ⟨b, 4, none⟩ w fun x54 =>
        R (x52 == x54) w) (
        R false w)) (
      R false w))) = kstep Tryz.prog 57 Tryz.f73.results.toList (Tryz.f73.body.getD .skip) (hostlaw_SameEntry.RV R) (kvc Tryz.prog 57 Tryz.f73.results.toList (Tryz.f73.body.getD .skip) (hostlaw_SameEntry.RV R) [] 2000) [(0, [1, 0, 1]), (0, [1, 1])] [(2, .pointer (some ⟨a, 0, none⟩)), (3, .pointer (some ⟨b, 0, none⟩)), (37, .bool t37)] w := by kernel_rfl
theorem hostlaw_SameEntry.B1_sound {R : Bool → World → Prop}  (a b : Nat) (t37 : Bool) (w : World) (h : hostlaw_SameEntry.B1 a b t37 w   R) :
    KW Tryz.prog 73 57 (hostlaw_SameEntry.RV R) ([(0, [1, 0, 1]), (0, [1, 1])].map (toItem (Tryz.f73.body.getD .skip))) [(2, .pointer (some ⟨a, 0, none⟩)), (3, .pointer (some ⟨b, 0, none⟩)), (37, .bool t37)] w := by
  exact block_spec Tryz.func73 Tryz.mixed stops_nil (Eq.mp (hostlaw_SameEntry.B1_eq a b t37 w   R ) h)
def hostlaw_SameEntry.B0 (a_0 a_1 a_2 a_3 a_4 a_5 a_6 : Int) (a_7 : Bool) (b_0 b_1 b_2 b_3 b_4 b_5 b_6 : Int) (b_7 : Bool) (w : World)   (R : Bool → World → Prop) : Prop :=
  New (.cells #[.int .i64 a_0, .int .i64 a_1, .int .i64 a_2, .int .i64 a_3, .int .i64 a_4, .int .i64 a_5, .int .i64 a_6, .bool a_7] 66) w fun a_ w1 =>
  New (.cells #[.int .i64 b_0, .int .i64 b_1, .int .i64 b_2, .int .i64 b_3, .int .i64 b_4, .int .i64 b_5, .int .i64 b_6, .bool b_7] 66) w1 fun b_ w2 =>
  LdI .i64 ⟨a_, 0, none⟩ w2 fun x6 =>
  LdI .i64 ⟨b_, 0, none⟩ w2 fun x8 =>
  Bm (x6 != x8) (
    hostlaw_SameEntry.B1 a_ b_ true w2  R) (
    LdI .i64 ⟨a_, 1, none⟩ w2 fun x12 =>
    LdI .i64 ⟨b_, 1, none⟩ w2 fun x14 =>
    Bm (x12 != x14) (
      hostlaw_SameEntry.B1 a_ b_ true w2  R) (
      LdI .i64 ⟨a_, 5, none⟩ w2 fun x19 =>
      LdI .i64 ⟨b_, 5, none⟩ w2 fun x21 =>
      Bm (x19 != x21) (
        hostlaw_SameEntry.B1 a_ b_ true w2  R) (
        LdI .i64 ⟨a_, 6, none⟩ w2 fun x26 =>
        LdI .i64 ⟨b_, 6, none⟩ w2 fun x28 =>
        Bm (x26 != x28) (
          hostlaw_SameEntry.B1 a_ b_ true w2  R) (
          LdB ⟨a_, 7, none⟩ w2 fun x33 =>
          LdB ⟨b_, 7, none⟩ w2 fun x35 =>
          hostlaw_SameEntry.B1 a_ b_ (!(x33 == x35)) w2  R))))
theorem hostlaw_SameEntry.B0_eq (a_0 a_1 a_2 a_3 a_4 a_5 a_6 : Int) (a_7 : Bool) (b_0 b_1 b_2 b_3 b_4 b_5 b_6 : Int) (b_7 : Bool) (w : World)   (R : Bool → World → Prop) (sB1 : Nat → Nat → Bool → World → Prop) :
    (
  New (.cells #[.int .i64 a_0, .int .i64 a_1, .int .i64 a_2, .int .i64 a_3, .int .i64 a_4, .int .i64 a_5, .int .i64 a_6, .bool a_7] 66) w fun a_ w1 =>
  New (.cells #[.int .i64 b_0, .int .i64 b_1, .int .i64 b_2, .int .i64 b_3, .int .i64 b_4, .int .i64 b_5, .int .i64 b_6, .bool b_7] 66) w1 fun b_ w2 =>
  LdI .i64 ⟨a_, 0, none⟩ w2 fun x6 =>
  LdI .i64 ⟨b_, 0, none⟩ w2 fun x8 =>
  Bm (x6 != x8) (
    sB1 a_ b_ true w2) (
    LdI .i64 ⟨a_, 1, none⟩ w2 fun x12 =>
    LdI .i64 ⟨b_, 1, none⟩ w2 fun x14 =>
    Bm (x12 != x14) (
      sB1 a_ b_ true w2) (
      LdI .i64 ⟨a_, 5, none⟩ w2 fun x19 =>
      LdI .i64 ⟨b_, 5, none⟩ w2 fun x21 =>
      Bm (x19 != x21) (
        sB1 a_ b_ true w2) (
        LdI .i64 ⟨a_, 6, none⟩ w2 fun x26 =>
        LdI .i64 ⟨b_, 6, none⟩ w2 fun x28 =>
        Bm (x26 != x28) (
          sB1 a_ b_ true w2) (
          LdB ⟨a_, 7, none⟩ w2 fun x33 =>
          LdB ⟨b_, 7, none⟩ w2 fun x35 =>
          sB1 a_ b_ (!(x33 == x35)) w2))))) = kstep Tryz.prog 57 Tryz.f73.results.toList (Tryz.f73.body.getD .skip) (hostlaw_SameEntry.RV R) (kvc Tryz.prog 57 Tryz.f73.results.toList (Tryz.f73.body.getD .skip) (hostlaw_SameEntry.RV R) [([(0, [1, 0, 1]), (0, [1, 1])], fun σ w => dK (slotOf σ 2) fun a_ => dK (slotOf σ 3) fun b_ => dB (slotOf σ 37) fun t37_ => sB1 a_ b_ t37_ w)] 2000) [(0, [])] [(0, .agg #[.int .i64 a_0, .int .i64 a_1, .int .i64 a_2, .int .i64 a_3, .int .i64 a_4, .int .i64 a_5, .int .i64 a_6, .bool a_7]), (1, .agg #[.int .i64 b_0, .int .i64 b_1, .int .i64 b_2, .int .i64 b_3, .int .i64 b_4, .int .i64 b_5, .int .i64 b_6, .bool b_7])] w := by kernel_rfl
theorem hostlaw_SameEntry.B0_sound {R : Bool → World → Prop}  (a_0 a_1 a_2 a_3 a_4 a_5 a_6 : Int) (a_7 : Bool) (b_0 b_1 b_2 b_3 b_4 b_5 b_6 : Int) (b_7 : Bool) (w : World) (h : hostlaw_SameEntry.B0 a_0 a_1 a_2 a_3 a_4 a_5 a_6 a_7 b_0 b_1 b_2 b_3 b_4 b_5 b_6 b_7 w   R) :
    KW Tryz.prog 73 57 (hostlaw_SameEntry.RV R) ([(0, [])].map (toItem (Tryz.f73.body.getD .skip))) [(0, .agg #[.int .i64 a_0, .int .i64 a_1, .int .i64 a_2, .int .i64 a_3, .int .i64 a_4, .int .i64 a_5, .int .i64 a_6, .bool a_7]), (1, .agg #[.int .i64 b_0, .int .i64 b_1, .int .i64 b_2, .int .i64 b_3, .int .i64 b_4, .int .i64 b_5, .int .i64 b_6, .bool b_7])] w := by
  exact block_spec Tryz.func73 Tryz.mixed (stops_cons (fun σ w h => by
      obtain ⟨a_, e0, h⟩ := dK_elim h
      obtain ⟨b_, e1, h⟩ := dK_elim h
      obtain ⟨t37_, e2, h⟩ := dB_elim h
      exact (hostlaw_SameEntry.B1_sound  a_ b_ t37_ w h).weaken (Sub.cons (Sub.cons (Sub.cons (Sub.nil _) e2) e1) e0)) stops_nil) (Eq.mp (hostlaw_SameEntry.B0_eq a_0 a_1 a_2 a_3 a_4 a_5 a_6 a_7 b_0 b_1 b_2 b_3 b_4 b_5 b_6 b_7 w   R (fun a_ b_ t37_ w => hostlaw_SameEntry.B1 a_ b_ t37_ w  R)) h)
theorem hostlaw_SameEntry.sound (a_0 a_1 a_2 a_3 a_4 a_5 a_6 : Int) (a_7 : Bool) (b_0 b_1 b_2 b_3 b_4 b_5 b_6 : Int) (b_7 : Bool) (w : World) (R : Bool → World → Prop) (h : hostlaw_SameEntry.B0 a_0 a_1 a_2 a_3 a_4 a_5 a_6 a_7 b_0 b_1 b_2 b_3 b_4 b_5 b_6 b_7 w R) : hostlaw_SameEntry.Call a_0 a_1 a_2 a_3 a_4 a_5 a_6 a_7 b_0 b_1 b_2 b_3 b_4 b_5 b_6 b_7 w R := by
  have hc := calls_of_block (args := #[.agg #[.int .i64 a_0, .int .i64 a_1, .int .i64 a_2, .int .i64 a_3, .int .i64 a_4, .int .i64 a_5, .int .i64 a_6, .bool a_7], .agg #[.int .i64 b_0, .int .i64 b_1, .int .i64 b_2, .int .i64 b_3, .int .i64 b_4, .int .i64 b_5, .int .i64 b_6, .bool b_7]]) Tryz.func73 (body := (Tryz.f73.body.getD .skip)) (by kernel_rfl) (by kernel_rfl) (args_slot _) (hostlaw_SameEntry.B0_sound a_0 a_1 a_2 a_3 a_4 a_5 a_6 a_7 b_0 b_1 b_2 b_3 b_4 b_5 b_6 b_7 w h)
  exact hc.mono fun e w' he => by
    obtain ⟨v, rfl, hv⟩ := he
    exact hostlaw_SameEntry.RV_elim hv
def hostlaw_SameConn.B4 (a b : Option Addr) (t164 : Bool) (w : World)   (R : Bool → World → Prop) : Prop :=
  Bm t164 (
    R false w) (
    Pn a fun a_1 =>
    LdI .i64 (a_1.add 14) w.drew fun x168 =>
    Pn b fun a_2 =>
    LdI .i64 (a_2.add 14) w.drew fun x172 =>
    Bm (x168 == x172) (
      Pn a fun a_3 =>
      LdI .i64 (a_3.add 15) w.drew fun x178 =>
      Pn b fun a_4 =>
      LdI .i64 (a_4.add 15) w.drew fun x182 =>
      Bm (x178 == x182) (
        Pn a fun a_5 =>
        LdI .i64 (a_5.add 16) w.drew fun x189 =>
        Pn b fun a_6 =>
        LdI .i64 (a_6.add 16) w.drew fun x193 =>
        Bm (x189 == x193) (
          Pn a fun a_7 =>
          LdI .i64 (a_7.add 17) w.drew fun x200 =>
          Pn b fun a_8 =>
          LdI .i64 (a_8.add 17) w.drew fun x204 =>
          R (x200 == x204) w.drew) (
          R false w.drew)) (
        R false w.drew)) (
      R false w.drew))
theorem hostlaw_SameConn.B4_eq (a b : Option Addr) (t164 : Bool) (w : World)   (R : Bool → World → Prop)  :
    (
  Bm t164 (
    R false w) (
    Pn a fun a_1 =>
    LdI .i64 (a_1.add 14) w.drew fun x168 =>
    Pn b fun a_2 =>
    LdI .i64 (a_2.add 14) w.drew fun x172 =>
    Bm (x168 == x172) (
      Pn a fun a_3 =>
      LdI .i64 (a_3.add 15) w.drew fun x178 =>
      Pn b fun a_4 =>
      LdI .i64 (a_4.add 15) w.drew fun x182 =>
      Bm (x178 == x182) (
        Pn a fun a_5 =>
        LdI .i64 (a_5.add 16) w.drew fun x189 =>
        Pn b fun a_6 =>
        LdI .i64 (a_6.add 16) w.drew fun x193 =>
        Bm (x189 == x193) (
          Pn a fun a_7 =>
          LdI .i64 (a_7.add 17) w.drew fun x200 =>
          Pn b fun a_8 =>
          LdI .i64 (a_8.add 17) w.drew fun x204 =>
          R (x200 == x204) w.drew) (
          R false w.drew)) (
        R false w.drew)) (
      R false w.drew))) = kstep Tryz.prog 207 Tryz.f74.results.toList (Tryz.f74.body.getD .skip) (hostlaw_SameConn.RV R) (kvc Tryz.prog 207 Tryz.f74.results.toList (Tryz.f74.body.getD .skip) (hostlaw_SameConn.RV R) [] 2000) [(0, [1, 1, 1, 1, 0, 1]), (0, [1, 1, 1, 1, 1])] [(0, .pointer a), (1, .pointer b), (164, .bool t164)] w := by kernel_rfl
theorem hostlaw_SameConn.B4_sound {R : Bool → World → Prop}  (a b : Option Addr) (t164 : Bool) (w : World) (h : hostlaw_SameConn.B4 a b t164 w   R) :
    KW Tryz.prog 74 207 (hostlaw_SameConn.RV R) ([(0, [1, 1, 1, 1, 0, 1]), (0, [1, 1, 1, 1, 1])].map (toItem (Tryz.f74.body.getD .skip))) [(0, .pointer a), (1, .pointer b), (164, .bool t164)] w := by
  exact block_spec Tryz.func74 Tryz.mixed stops_nil (Eq.mp (hostlaw_SameConn.B4_eq a b t164 w   R ) h)
def hostlaw_SameConn.B3 (a b : Option Addr) (t122 : Bool) (w : World)   (R : Bool → World → Prop) : Prop :=
  Bm t122 (
    R false w) (
    Pn a fun a_1 =>
    LdI .i64 (a_1.add 9) w.drew fun x126 =>
    Pn b fun a_2 =>
    LdI .i64 (a_2.add 9) w.drew fun x130 =>
    Bm (x126 != x130) (
      hostlaw_SameConn.B4 a b true w.drew  R) (
      Pn a fun a_3 =>
      LdI .i64 (a_3.add 10) w.drew fun x136 =>
      Pn b fun a_4 =>
      LdI .i64 (a_4.add 10) w.drew fun x140 =>
      Bm (x136 != x140) (
        hostlaw_SameConn.B4 a b true w.drew  R) (
        Pn a fun a_5 =>
        LdI .i64 (a_5.add 11) w.drew fun x147 =>
        Pn b fun a_6 =>
        LdI .i64 (a_6.add 11) w.drew fun x151 =>
        Bm (x147 != x151) (
          hostlaw_SameConn.B4 a b true w.drew  R) (
          Pn a fun a_7 =>
          LdI .i64 (a_7.add 12) w.drew fun x158 =>
          Pn b fun a_8 =>
          LdI .i64 (a_8.add 12) w.drew fun x162 =>
          hostlaw_SameConn.B4 a b (x158 != x162) w.drew  R))))
theorem hostlaw_SameConn.B3_eq (a b : Option Addr) (t122 : Bool) (w : World)   (R : Bool → World → Prop) (sB4 : Option Addr → Option Addr → Bool → World → Prop) :
    (
  Bm t122 (
    R false w) (
    Pn a fun a_1 =>
    LdI .i64 (a_1.add 9) w.drew fun x126 =>
    Pn b fun a_2 =>
    LdI .i64 (a_2.add 9) w.drew fun x130 =>
    Bm (x126 != x130) (
      sB4 a b true w.drew) (
      Pn a fun a_3 =>
      LdI .i64 (a_3.add 10) w.drew fun x136 =>
      Pn b fun a_4 =>
      LdI .i64 (a_4.add 10) w.drew fun x140 =>
      Bm (x136 != x140) (
        sB4 a b true w.drew) (
        Pn a fun a_5 =>
        LdI .i64 (a_5.add 11) w.drew fun x147 =>
        Pn b fun a_6 =>
        LdI .i64 (a_6.add 11) w.drew fun x151 =>
        Bm (x147 != x151) (
          sB4 a b true w.drew) (
          Pn a fun a_7 =>
          LdI .i64 (a_7.add 12) w.drew fun x158 =>
          Pn b fun a_8 =>
          LdI .i64 (a_8.add 12) w.drew fun x162 =>
          sB4 a b (x158 != x162) w.drew))))) = kstep Tryz.prog 207 Tryz.f74.results.toList (Tryz.f74.body.getD .skip) (hostlaw_SameConn.RV R) (kvc Tryz.prog 207 Tryz.f74.results.toList (Tryz.f74.body.getD .skip) (hostlaw_SameConn.RV R) [([(0, [1, 1, 1, 1, 0, 1]), (0, [1, 1, 1, 1, 1])], fun σ w => dP (slotOf σ 0) fun a_ => dP (slotOf σ 1) fun b_ => dB (slotOf σ 164) fun t164_ => sB4 a_ b_ t164_ w)] 2000) [(0, [1, 1, 1, 0, 1]), (0, [1, 1, 1, 1])] [(0, .pointer a), (1, .pointer b), (122, .bool t122)] w := by kernel_rfl
theorem hostlaw_SameConn.B3_sound {R : Bool → World → Prop}  (a b : Option Addr) (t122 : Bool) (w : World) (h : hostlaw_SameConn.B3 a b t122 w   R) :
    KW Tryz.prog 74 207 (hostlaw_SameConn.RV R) ([(0, [1, 1, 1, 0, 1]), (0, [1, 1, 1, 1])].map (toItem (Tryz.f74.body.getD .skip))) [(0, .pointer a), (1, .pointer b), (122, .bool t122)] w := by
  exact block_spec Tryz.func74 Tryz.mixed (stops_cons (fun σ w h => by
      obtain ⟨a_, e0, h⟩ := dP_elim h
      obtain ⟨b_, e1, h⟩ := dP_elim h
      obtain ⟨t164_, e2, h⟩ := dB_elim h
      exact (hostlaw_SameConn.B4_sound  a_ b_ t164_ w h).weaken (Sub.cons (Sub.cons (Sub.cons (Sub.nil _) e2) e1) e0)) stops_nil) (Eq.mp (hostlaw_SameConn.B3_eq a b t122 w   R (fun a_ b_ t164_ w => hostlaw_SameConn.B4 a_ b_ t164_ w  R)) h)
def hostlaw_SameConn.B2 (a b : Option Addr) (t80 : Bool) (w : World)   (R : Bool → World → Prop) : Prop :=
  Bm t80 (
    R false w) (
    Pn a fun a_1 =>
    LdI .i64 (a_1.add 6) w.drew fun x84 =>
    Pn b fun a_2 =>
    LdI .i64 (a_2.add 6) w.drew fun x88 =>
    Bm (x84 != x88) (
      hostlaw_SameConn.B3 a b true w.drew  R) (
      Pn a fun a_3 =>
      LdI .i64 (a_3.add 7) w.drew fun x94 =>
      Pn b fun a_4 =>
      LdI .i64 (a_4.add 7) w.drew fun x98 =>
      Bm (x94 != x98) (
        hostlaw_SameConn.B3 a b true w.drew  R) (
        Pn a fun a_5 =>
        LdI .i64 (a_5.add 8) w.drew fun x105 =>
        Pn b fun a_6 =>
        LdI .i64 (a_6.add 8) w.drew fun x109 =>
        Bm (x105 != x109) (
          hostlaw_SameConn.B3 a b true w.drew  R) (
          Pn a fun a_7 =>
          LdI .i64 (a_7.add 13) w.drew fun x116 =>
          Pn b fun a_8 =>
          LdI .i64 (a_8.add 13) w.drew fun x120 =>
          hostlaw_SameConn.B3 a b (x116 != x120) w.drew  R))))
theorem hostlaw_SameConn.B2_eq (a b : Option Addr) (t80 : Bool) (w : World)   (R : Bool → World → Prop) (sB3 : Option Addr → Option Addr → Bool → World → Prop) :
    (
  Bm t80 (
    R false w) (
    Pn a fun a_1 =>
    LdI .i64 (a_1.add 6) w.drew fun x84 =>
    Pn b fun a_2 =>
    LdI .i64 (a_2.add 6) w.drew fun x88 =>
    Bm (x84 != x88) (
      sB3 a b true w.drew) (
      Pn a fun a_3 =>
      LdI .i64 (a_3.add 7) w.drew fun x94 =>
      Pn b fun a_4 =>
      LdI .i64 (a_4.add 7) w.drew fun x98 =>
      Bm (x94 != x98) (
        sB3 a b true w.drew) (
        Pn a fun a_5 =>
        LdI .i64 (a_5.add 8) w.drew fun x105 =>
        Pn b fun a_6 =>
        LdI .i64 (a_6.add 8) w.drew fun x109 =>
        Bm (x105 != x109) (
          sB3 a b true w.drew) (
          Pn a fun a_7 =>
          LdI .i64 (a_7.add 13) w.drew fun x116 =>
          Pn b fun a_8 =>
          LdI .i64 (a_8.add 13) w.drew fun x120 =>
          sB3 a b (x116 != x120) w.drew))))) = kstep Tryz.prog 207 Tryz.f74.results.toList (Tryz.f74.body.getD .skip) (hostlaw_SameConn.RV R) (kvc Tryz.prog 207 Tryz.f74.results.toList (Tryz.f74.body.getD .skip) (hostlaw_SameConn.RV R) [([(0, [1, 1, 1, 0, 1]), (0, [1, 1, 1, 1])], fun σ w => dP (slotOf σ 0) fun a_ => dP (slotOf σ 1) fun b_ => dB (slotOf σ 122) fun t122_ => sB3 a_ b_ t122_ w)] 2000) [(0, [1, 1, 0, 1]), (0, [1, 1, 1])] [(0, .pointer a), (1, .pointer b), (80, .bool t80)] w := by kernel_rfl
theorem hostlaw_SameConn.B2_sound {R : Bool → World → Prop}  (a b : Option Addr) (t80 : Bool) (w : World) (h : hostlaw_SameConn.B2 a b t80 w   R) :
    KW Tryz.prog 74 207 (hostlaw_SameConn.RV R) ([(0, [1, 1, 0, 1]), (0, [1, 1, 1])].map (toItem (Tryz.f74.body.getD .skip))) [(0, .pointer a), (1, .pointer b), (80, .bool t80)] w := by
  exact block_spec Tryz.func74 Tryz.mixed (stops_cons (fun σ w h => by
      obtain ⟨a_, e0, h⟩ := dP_elim h
      obtain ⟨b_, e1, h⟩ := dP_elim h
      obtain ⟨t122_, e2, h⟩ := dB_elim h
      exact (hostlaw_SameConn.B3_sound  a_ b_ t122_ w h).weaken (Sub.cons (Sub.cons (Sub.cons (Sub.nil _) e2) e1) e0)) stops_nil) (Eq.mp (hostlaw_SameConn.B2_eq a b t80 w   R (fun a_ b_ t122_ w => hostlaw_SameConn.B3 a_ b_ t122_ w  R)) h)
def hostlaw_SameConn.B1 (a b : Option Addr) (t10 : Bool) (w : World)   (R : Bool → World → Prop) : Prop :=
  Bm t10 (
    Bm a.isNone (
      R b.isNone w) (
      R false w)) (
    Pn a fun a_1 =>
    LdI .i64 a_1 w.drew fun x20 =>
    Pn b fun a_2 =>
    LdI .i64 a_2 w.drew fun x24 =>
    Bm (x20 != x24) (
      hostlaw_SameConn.B2 a b true w.drew  R) (
      Pn a fun a_3 =>
      LdI .i64 (a_3.add 1) w.drew fun x30 =>
      Pn b fun a_4 =>
      LdI .i64 (a_4.add 1) w.drew fun x34 =>
      Bm (x30 != x34) (
        hostlaw_SameConn.B2 a b true w.drew  R) (
        Pn a fun a_5 =>
        LdB (a_5.add 2) w.drew fun x41 =>
        Pn b fun a_6 =>
        LdB (a_6.add 2) w.drew fun x45 =>
        Bm (!(x41 == x45)) (
          hostlaw_SameConn.B2 a b true w.drew  R) (
          Pn a fun a_7 =>
          LdB (a_7.add 3) w.drew fun x52 =>
          Pn b fun a_8 =>
          LdB (a_8.add 3) w.drew fun x56 =>
          Bm (!(x52 == x56)) (
            hostlaw_SameConn.B2 a b true w.drew  R) (
            Pn a fun a_9 =>
            LdB (a_9.add 4) w.drew fun x63 =>
            Pn b fun a_10 =>
            LdB (a_10.add 4) w.drew fun x67 =>
            Bm (!(x63 == x67)) (
              hostlaw_SameConn.B2 a b true w.drew  R) (
              Pn a fun a_11 =>
              LdB (a_11.add 5) w.drew fun x74 =>
              Pn b fun a_12 =>
              LdB (a_12.add 5) w.drew fun x78 =>
              hostlaw_SameConn.B2 a b (!(x74 == x78)) w.drew  R))))))
theorem hostlaw_SameConn.B1_eq (a b : Option Addr) (t10 : Bool) (w : World)   (R : Bool → World → Prop) (sB2 : Option Addr → Option Addr → Bool → World → Prop) :
    (
  Bm t10 (
    Bm a.isNone (
      R b.isNone w) (
      R false w)) (
    Pn a fun a_1 =>
    LdI .i64 a_1 w.drew fun x20 =>
    Pn b fun a_2 =>
    LdI .i64 a_2 w.drew fun x24 =>
    Bm (x20 != x24) (
      sB2 a b true w.drew) (
      Pn a fun a_3 =>
      LdI .i64 (a_3.add 1) w.drew fun x30 =>
      Pn b fun a_4 =>
      LdI .i64 (a_4.add 1) w.drew fun x34 =>
      Bm (x30 != x34) (
        sB2 a b true w.drew) (
        Pn a fun a_5 =>
        LdB (a_5.add 2) w.drew fun x41 =>
        Pn b fun a_6 =>
        LdB (a_6.add 2) w.drew fun x45 =>
        Bm (!(x41 == x45)) (
          sB2 a b true w.drew) (
          Pn a fun a_7 =>
          LdB (a_7.add 3) w.drew fun x52 =>
          Pn b fun a_8 =>
          LdB (a_8.add 3) w.drew fun x56 =>
          Bm (!(x52 == x56)) (
            sB2 a b true w.drew) (
            Pn a fun a_9 =>
            LdB (a_9.add 4) w.drew fun x63 =>
            Pn b fun a_10 =>
            LdB (a_10.add 4) w.drew fun x67 =>
            Bm (!(x63 == x67)) (
              sB2 a b true w.drew) (
              Pn a fun a_11 =>
              LdB (a_11.add 5) w.drew fun x74 =>
              Pn b fun a_12 =>
              LdB (a_12.add 5) w.drew fun x78 =>
              sB2 a b (!(x74 == x78)) w.drew))))))) = kstep Tryz.prog 207 Tryz.f74.results.toList (Tryz.f74.body.getD .skip) (hostlaw_SameConn.RV R) (kvc Tryz.prog 207 Tryz.f74.results.toList (Tryz.f74.body.getD .skip) (hostlaw_SameConn.RV R) [([(0, [1, 1, 0, 1]), (0, [1, 1, 1])], fun σ w => dP (slotOf σ 0) fun a_ => dP (slotOf σ 1) fun b_ => dB (slotOf σ 80) fun t80_ => sB2 a_ b_ t80_ w)] 2000) [(0, [1, 0, 1]), (0, [1, 1])] [(0, .pointer a), (1, .pointer b), (10, .bool t10)] w := by kernel_rfl
theorem hostlaw_SameConn.B1_sound {R : Bool → World → Prop}  (a b : Option Addr) (t10 : Bool) (w : World) (h : hostlaw_SameConn.B1 a b t10 w   R) :
    KW Tryz.prog 74 207 (hostlaw_SameConn.RV R) ([(0, [1, 0, 1]), (0, [1, 1])].map (toItem (Tryz.f74.body.getD .skip))) [(0, .pointer a), (1, .pointer b), (10, .bool t10)] w := by
  exact block_spec Tryz.func74 Tryz.mixed (stops_cons (fun σ w h => by
      obtain ⟨a_, e0, h⟩ := dP_elim h
      obtain ⟨b_, e1, h⟩ := dP_elim h
      obtain ⟨t80_, e2, h⟩ := dB_elim h
      exact (hostlaw_SameConn.B2_sound  a_ b_ t80_ w h).weaken (Sub.cons (Sub.cons (Sub.cons (Sub.nil _) e2) e1) e0)) stops_nil) (Eq.mp (hostlaw_SameConn.B1_eq a b t10 w   R (fun a_ b_ t80_ w => hostlaw_SameConn.B2 a_ b_ t80_ w  R)) h)
def hostlaw_SameConn.B0 (a b : Option Addr) (w : World)   (R : Bool → World → Prop) : Prop :=
  Bm a.isNone (
    hostlaw_SameConn.B1 a b true w  R) (
    hostlaw_SameConn.B1 a b b.isNone w  R)
theorem hostlaw_SameConn.B0_eq (a b : Option Addr) (w : World)   (R : Bool → World → Prop) (sB1 : Option Addr → Option Addr → Bool → World → Prop) :
    (
  Bm a.isNone (
    sB1 a b true w) (
    sB1 a b b.isNone w)) = kstep Tryz.prog 207 Tryz.f74.results.toList (Tryz.f74.body.getD .skip) (hostlaw_SameConn.RV R) (kvc Tryz.prog 207 Tryz.f74.results.toList (Tryz.f74.body.getD .skip) (hostlaw_SameConn.RV R) [([(0, [1, 0, 1]), (0, [1, 1])], fun σ w => dP (slotOf σ 0) fun a_ => dP (slotOf σ 1) fun b_ => dB (slotOf σ 10) fun t10_ => sB1 a_ b_ t10_ w)] 2000) [(0, [])] [(0, .pointer a), (1, .pointer b)] w := by kernel_rfl
theorem hostlaw_SameConn.B0_sound {R : Bool → World → Prop}  (a b : Option Addr) (w : World) (h : hostlaw_SameConn.B0 a b w   R) :
    KW Tryz.prog 74 207 (hostlaw_SameConn.RV R) ([(0, [])].map (toItem (Tryz.f74.body.getD .skip))) [(0, .pointer a), (1, .pointer b)] w := by
  exact block_spec Tryz.func74 Tryz.mixed (stops_cons (fun σ w h => by
      obtain ⟨a_, e0, h⟩ := dP_elim h
      obtain ⟨b_, e1, h⟩ := dP_elim h
      obtain ⟨t10_, e2, h⟩ := dB_elim h
      exact (hostlaw_SameConn.B1_sound  a_ b_ t10_ w h).weaken (Sub.cons (Sub.cons (Sub.cons (Sub.nil _) e2) e1) e0)) stops_nil) (Eq.mp (hostlaw_SameConn.B0_eq a b w   R (fun a_ b_ t10_ w => hostlaw_SameConn.B1 a_ b_ t10_ w  R)) h)
theorem hostlaw_SameConn.sound (a b : Option Addr) (w : World) (R : Bool → World → Prop) (h : hostlaw_SameConn.B0 a b w R) : hostlaw_SameConn.Call a b w R := by
  have hc := calls_of_block (args := #[.pointer a, .pointer b]) Tryz.func74 (body := (Tryz.f74.body.getD .skip)) (by kernel_rfl) (by kernel_rfl) (args_slot _) (hostlaw_SameConn.B0_sound a b w h)
  exact hc.mono fun e w' he => by
    obtain ⟨v, rfl, hv⟩ := he
    exact hostlaw_SameConn.RV_elim hv
end Go.Proofs.Qxb6500424aGreat
