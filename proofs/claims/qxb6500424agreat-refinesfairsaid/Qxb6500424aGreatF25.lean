import Derived.Test.Qxb6500424aGreatSig
set_option maxRecDepth 100000
set_option linter.unusedVariables false
open Go.Vc
namespace Go.Proofs.Qxb6500424aGreat
def sock_Table_enqueue.B0 (t : Option Addr) (l sd : Int) (w : World)   (R : World → Prop) : Prop :=
  Pn t fun a =>
  (0 ≤ l ∧ l < ((6 : Nat) : Int)) ∧
  LdI .i64 ((Addr.add a (l.toNat * 15)).add 13) w.drew fun x13 =>
  Pn t fun a_1 =>
  (0 ≤ l ∧ l < ((6 : Nat) : Int)) ∧
  LdI .i64 ((Addr.add a_1 (l.toNat * 15)).add 14) w.drew fun x20 =>
  sock_wrap.Call (IntKind.i64.wrap (x13 + x20)) w.drew fun r22 w1 =>
  Pn t fun a_2 =>
  (0 ≤ l ∧ l < ((6 : Nat) : Int)) ∧
  (0 ≤ r22 ∧ r22 < ((2 : Nat) : Int)) ∧
  Sts [.int .i64 sd] (Addr.add ((Addr.add a_2 (l.toNat * 15)).add 11) (r22.toNat * 1)) 0 w1 fun w2 =>
  Pn t fun a_3 =>
  (0 ≤ l ∧ l < ((6 : Nat) : Int)) ∧
  LdI .i64 ((Addr.add a_3 (l.toNat * 15)).add 14) w2.drew fun x38 =>
  Pn t fun a_4 =>
  (0 ≤ l ∧ l < ((6 : Nat) : Int)) ∧
  Sts [.int .i64 (IntKind.i64.wrap (x38 + (1 : Int)))] ((Addr.add a_4 (l.toNat * 15)).add 14) 0 w2.drew fun w3 =>
  R  w3
theorem sock_Table_enqueue.B0_eq (t : Option Addr) (l sd : Int) (w : World)   (R : World → Prop)  :
    (
  Pn t fun a =>
  (0 ≤ l ∧ l < ((6 : Nat) : Int)) ∧
  LdI .i64 ((Addr.add a (l.toNat * 15)).add 13) w.drew fun x13 =>
  Pn t fun a_1 =>
  (0 ≤ l ∧ l < ((6 : Nat) : Int)) ∧
  LdI .i64 ((Addr.add a_1 (l.toNat * 15)).add 14) w.drew fun x20 =>
  sock_wrap.Call (IntKind.i64.wrap (x13 + x20)) w.drew fun r22 w1 =>
  Pn t fun a_2 =>
  (0 ≤ l ∧ l < ((6 : Nat) : Int)) ∧
  (0 ≤ r22 ∧ r22 < ((2 : Nat) : Int)) ∧
  Sts [.int .i64 sd] (Addr.add ((Addr.add a_2 (l.toNat * 15)).add 11) (r22.toNat * 1)) 0 w1 fun w2 =>
  Pn t fun a_3 =>
  (0 ≤ l ∧ l < ((6 : Nat) : Int)) ∧
  LdI .i64 ((Addr.add a_3 (l.toNat * 15)).add 14) w2.drew fun x38 =>
  Pn t fun a_4 =>
  (0 ≤ l ∧ l < ((6 : Nat) : Int)) ∧
  Sts [.int .i64 (IntKind.i64.wrap (x38 + (1 : Int)))] ((Addr.add a_4 (l.toNat * 15)).add 14) 0 w2.drew fun w3 =>
  R  w3) = kstep Tryz.prog 44 Tryz.f195.results.toList (Tryz.f195.body.getD .skip) (sock_Table_enqueue.RV R) (kvc Tryz.prog 44 Tryz.f195.results.toList (Tryz.f195.body.getD .skip) (sock_Table_enqueue.RV R) [] 2000) [(0, [])] [(0, .pointer t), (1, .int .i64 l), (2, .int .i64 sd)] w := by kernel_rfl
theorem sock_Table_enqueue.B0_sound {R : World → Prop}  (t : Option Addr) (l sd : Int) (w : World) (h : sock_Table_enqueue.B0 t l sd w   R) :
    KW Tryz.prog 195 44 (sock_Table_enqueue.RV R) ([(0, [])].map (toItem (Tryz.f195.body.getD .skip))) [(0, .pointer t), (1, .int .i64 l), (2, .int .i64 sd)] w := by
  exact block_spec Tryz.func195 Tryz.mixed stops_nil (Eq.mp (sock_Table_enqueue.B0_eq t l sd w   R ) h)
theorem sock_Table_enqueue.sound (t : Option Addr) (l sd : Int) (w : World) (R : World → Prop) (h : sock_Table_enqueue.B0 t l sd w R) : sock_Table_enqueue.Call t l sd w R := by
  have hc := calls_of_block (args := #[.pointer t, .int .i64 l, .int .i64 sd]) Tryz.func195 (body := (Tryz.f195.body.getD .skip)) (by kernel_rfl) (by kernel_rfl) (args_slot _) (sock_Table_enqueue.B0_sound t l sd w h)
  exact hc.mono fun e w' he => by
    obtain ⟨v, rfl, hv⟩ := he
    exact sock_Table_enqueue.RV_elim hv
def seg_RecvBuf_Reset.B0 (b : Option Addr) (seq : Int) (w : World)   (R : World → Prop) : Prop :=
  api_SeqAdd.Call seq (0 : Int) w fun r6 w1 =>
  Pn b fun a =>
  Sts [.int .u8 (IntKind.u8.wrap r6)] (a.add 16) 0 w1 fun w2 =>
  Pn b fun a_1 =>
  Sts [.int .i64 (0 : Int)] (a_1.add 17) 0 w2 fun w3 =>
  Pn b fun a_2 =>
  Sts [.int .u16 (0 : Int)] (a_2.add 18) 0 w3 fun w4 =>
  R  w4
theorem seg_RecvBuf_Reset.B0_eq (b : Option Addr) (seq : Int) (w : World)   (R : World → Prop)  :
    (
  api_SeqAdd.Call seq (0 : Int) w fun r6 w1 =>
  Pn b fun a =>
  Sts [.int .u8 (IntKind.u8.wrap r6)] (a.add 16) 0 w1 fun w2 =>
  Pn b fun a_1 =>
  Sts [.int .i64 (0 : Int)] (a_1.add 17) 0 w2 fun w3 =>
  Pn b fun a_2 =>
  Sts [.int .u16 (0 : Int)] (a_2.add 18) 0 w3 fun w4 =>
  R  w4) = kstep Tryz.prog 18 Tryz.f196.results.toList (Tryz.f196.body.getD .skip) (seg_RecvBuf_Reset.RV R) (kvc Tryz.prog 18 Tryz.f196.results.toList (Tryz.f196.body.getD .skip) (seg_RecvBuf_Reset.RV R) [] 2000) [(0, [])] [(0, .pointer b), (1, .int .i64 seq)] w := by kernel_rfl
theorem seg_RecvBuf_Reset.B0_sound {R : World → Prop}  (b : Option Addr) (seq : Int) (w : World) (h : seg_RecvBuf_Reset.B0 b seq w   R) :
    KW Tryz.prog 196 18 (seg_RecvBuf_Reset.RV R) ([(0, [])].map (toItem (Tryz.f196.body.getD .skip))) [(0, .pointer b), (1, .int .i64 seq)] w := by
  exact block_spec Tryz.func196 Tryz.mixed stops_nil (Eq.mp (seg_RecvBuf_Reset.B0_eq b seq w   R ) h)
theorem seg_RecvBuf_Reset.sound (b : Option Addr) (seq : Int) (w : World) (R : World → Prop) (h : seg_RecvBuf_Reset.B0 b seq w R) : seg_RecvBuf_Reset.Call b seq w R := by
  have hc := calls_of_block (args := #[.pointer b, .int .i64 seq]) Tryz.func196 (body := (Tryz.f196.body.getD .skip)) (by kernel_rfl) (by kernel_rfl) (args_slot _) (seg_RecvBuf_Reset.B0_sound b seq w h)
  exact hc.mono fun e w' he => by
    obtain ⟨v, rfl, hv⟩ := he
    exact seg_RecvBuf_Reset.RV_elim hv
def conn_window.B0 (w0 : Int) (w : World)   (R : Int → World → Prop) : Prop :=
  Bm (decide (w0 < (0 : Int))) (
    R (0 : Int) w) (
    Bm (decide (w0 > (255 : Int))) (
      R (255 : Int) w) (
      R w0 w))
theorem conn_window.B0_eq (w0 : Int) (w : World)   (R : Int → World → Prop)  :
    (
  Bm (decide (w0 < (0 : Int))) (
    R (0 : Int) w) (
    Bm (decide (w0 > (255 : Int))) (
      R (255 : Int) w) (
      R w0 w))) = kstep Tryz.prog 8 Tryz.f197.results.toList (Tryz.f197.body.getD .skip) (conn_window.RV R) (kvc Tryz.prog 8 Tryz.f197.results.toList (Tryz.f197.body.getD .skip) (conn_window.RV R) [] 2000) [(0, [])] [(0, .int .i64 w0)] w := by kernel_rfl
theorem conn_window.B0_sound {R : Int → World → Prop}  (w0 : Int) (w : World) (h : conn_window.B0 w0 w   R) :
    KW Tryz.prog 197 8 (conn_window.RV R) ([(0, [])].map (toItem (Tryz.f197.body.getD .skip))) [(0, .int .i64 w0)] w := by
  exact block_spec Tryz.func197 Tryz.mixed stops_nil (Eq.mp (conn_window.B0_eq w0 w   R ) h)
theorem conn_window.sound (w0 : Int) (w : World) (R : Int → World → Prop) (h : conn_window.B0 w0 w R) : conn_window.Call w0 w R := by
  have hc := calls_of_block (args := #[.int .i64 w0]) Tryz.func197 (body := (Tryz.f197.body.getD .skip)) (by kernel_rfl) (by kernel_rfl) (args_slot _) (conn_window.B0_sound w0 w h)
  exact hc.mono fun e w' he => by
    obtain ⟨v, rfl, hv⟩ := he
    exact conn_window.RV_elim hv
def ip_packet.B0 (proto src dst id0 offmore : Int) (payload_b : Option Addr) (payload_l payload_c : Nat) (w : World)   (R : Option Addr → Nat → Nat → World → Prop) : Prop :=
  Make 5 (.int .u8 (0 : Int)) 1 1 (IntKind.i64.wrap ((8 : Int) + ((payload_l : Nat) : Int))) (IntKind.i64.wrap ((8 : Int) + ((payload_l : Nat) : Int))) w fun b17 w1 =>
  (0 ≤ (0 : Int) ∧ (0 : Int) < (((IntKind.i64.wrap ((8 : Int) + ((payload_l : Nat) : Int))).toNat : Nat) : Int)) ∧
  Sts [.int .u8 (IntKind.u8.wrap proto)] ⟨b17, 0, none⟩ 0 w1 fun w2 =>
  (0 ≤ (1 : Int) ∧ (1 : Int) < (((IntKind.i64.wrap ((8 : Int) + ((payload_l : Nat) : Int))).toNat : Nat) : Int)) ∧
  Sts [.int .u8 (8 : Int)] ⟨b17, 1, none⟩ 0 w2 fun w3 =>
  (0 ≤ (2 : Int) ∧ (2 : Int) < (((IntKind.i64.wrap ((8 : Int) + ((payload_l : Nat) : Int))).toNat : Nat) : Int)) ∧
  Sts [.int .u8 (IntKind.u8.wrap src)] ⟨b17, 2, none⟩ 0 w3 fun w4 =>
  (0 ≤ (3 : Int) ∧ (3 : Int) < (((IntKind.i64.wrap ((8 : Int) + ((payload_l : Nat) : Int))).toNat : Nat) : Int)) ∧
  Sts [.int .u8 (IntKind.u8.wrap dst)] ⟨b17, 3, none⟩ 0 w4 fun w5 =>
  (0 ≤ (4 : Int) ∧ (4 : Int) < (((IntKind.i64.wrap ((8 : Int) + ((payload_l : Nat) : Int))).toNat : Nat) : Int)) ∧
  Sts [.int .u8 (IntKind.u8.wrap id0)] ⟨b17, 4, none⟩ 0 w5 fun w6 =>
  (0 ≤ (5 : Int) ∧ (5 : Int) < (((IntKind.i64.wrap ((8 : Int) + ((payload_l : Nat) : Int))).toNat : Nat) : Int)) ∧
  Sts [.int .u8 (IntKind.u8.wrap offmore)] ⟨b17, 5, none⟩ 0 w6 fun w7 =>
  (0 ≤ (6 : Int) ∧ (6 : Int) < (((IntKind.i64.wrap ((8 : Int) + ((payload_l : Nat) : Int))).toNat : Nat) : Int)) ∧
  Sts [.int .u8 (IntKind.u8.wrap ((payload_l : Nat) : Int))] ⟨b17, 6, none⟩ 0 w7 fun w8 =>
  ip_sumOf.Call (some ⟨b17, 0, none⟩) ((IntKind.i64.wrap ((8 : Int) + ((payload_l : Nat) : Int))).toNat) ((IntKind.i64.wrap ((8 : Int) + ((payload_l : Nat) : Int))).toNat) w8 fun r47 w9 =>
  (0 ≤ (7 : Int) ∧ (7 : Int) < (((IntKind.i64.wrap ((8 : Int) + ((payload_l : Nat) : Int))).toNat : Nat) : Int)) ∧
  Sts [.int .u8 r47] ⟨b17, 7, none⟩ 0 w9 fun w10 =>
  (0 ≤ (8 : Int) ∧ (8 : Int) ≤ (((IntKind.i64.wrap ((8 : Int) + ((payload_l : Nat) : Int))).toNat : Nat) : Int)) ∧
  Copy 1 (slBase (some (⟨b17, 0, none⟩ : Addr)) (8 : Int) (((IntKind.i64.wrap ((8 : Int) + ((payload_l : Nat) : Int))).toNat : Nat) : Int) 1) ((((IntKind.i64.wrap ((8 : Int) + ((payload_l : Nat) : Int))).toNat : Nat) : Int).toNat - (8 : Int).toNat) payload_b payload_l w10 fun n52 w11 =>
  R (some ⟨b17, 0, none⟩) ((IntKind.i64.wrap ((8 : Int) + ((payload_l : Nat) : Int))).toNat) ((IntKind.i64.wrap ((8 : Int) + ((payload_l : Nat) : Int))).toNat) w11
theorem ip_packet.B0_eq (proto src dst id0 offmore : Int) (payload_b : Option Addr) (payload_l payload_c : Nat) (w : World)   (R : Option Addr → Nat → Nat → World → Prop)  :
    (
  Make 5 (.int .u8 (0 : Int)) 1 1 (IntKind.i64.wrap ((8 : Int) + ((payload_l : Nat) : Int))) (IntKind.i64.wrap ((8 : Int) + ((payload_l : Nat) : Int))) w fun b17 w1 =>
  (0 ≤ (0 : Int) ∧ (0 : Int) < (((IntKind.i64.wrap ((8 : Int) + ((payload_l : Nat) : Int))).toNat : Nat) : Int)) ∧
  Sts [.int .u8 (IntKind.u8.wrap proto)] ⟨b17, 0, none⟩ 0 w1 fun w2 =>
  (0 ≤ (1 : Int) ∧ (1 : Int) < (((IntKind.i64.wrap ((8 : Int) + ((payload_l : Nat) : Int))).toNat : Nat) : Int)) ∧
  Sts [.int .u8 (8 : Int)] ⟨b17, 1, none⟩ 0 w2 fun w3 =>
  (0 ≤ (2 : Int) ∧ (2 : Int) < (((IntKind.i64.wrap ((8 : Int) + ((payload_l : Nat) : Int))).toNat : Nat) : Int)) ∧
  Sts [.int .u8 (IntKind.u8.wrap src)] ⟨b17, 2, none⟩ 0 w3 fun w4 =>
  (0 ≤ (3 : Int) ∧ (3 : Int) < (((IntKind.i64.wrap ((8 : Int) + ((payload_l : Nat) : Int))).toNat : Nat) : Int)) ∧
  Sts [.int .u8 (IntKind.u8.wrap dst)] ⟨b17, 3, none⟩ 0 w4 fun w5 =>
  (0 ≤ (4 : Int) ∧ (4 : Int) < (((IntKind.i64.wrap ((8 : Int) + ((payload_l : Nat) : Int))).toNat : Nat) : Int)) ∧
  Sts [.int .u8 (IntKind.u8.wrap id0)] ⟨b17, 4, none⟩ 0 w5 fun w6 =>
  (0 ≤ (5 : Int) ∧ (5 : Int) < (((IntKind.i64.wrap ((8 : Int) + ((payload_l : Nat) : Int))).toNat : Nat) : Int)) ∧
  Sts [.int .u8 (IntKind.u8.wrap offmore)] ⟨b17, 5, none⟩ 0 w6 fun w7 =>
  (0 ≤ (6 : Int) ∧ (6 : Int) < (((IntKind.i64.wrap ((8 : Int) + ((payload_l : Nat) : Int))).toNat : Nat) : Int)) ∧
  Sts [.int .u8 (IntKind.u8.wrap ((payload_l : Nat) : Int))] ⟨b17, 6, none⟩ 0 w7 fun w8 =>
  ip_sumOf.Call (some ⟨b17, 0, none⟩) ((IntKind.i64.wrap ((8 : Int) + ((payload_l : Nat) : Int))).toNat) ((IntKind.i64.wrap ((8 : Int) + ((payload_l : Nat) : Int))).toNat) w8 fun r47 w9 =>
  (0 ≤ (7 : Int) ∧ (7 : Int) < (((IntKind.i64.wrap ((8 : Int) + ((payload_l : Nat) : Int))).toNat : Nat) : Int)) ∧
  Sts [.int .u8 r47] ⟨b17, 7, none⟩ 0 w9 fun w10 =>
  (0 ≤ (8 : Int) ∧ (8 : Int) ≤ (((IntKind.i64.wrap ((8 : Int) + ((payload_l : Nat) : Int))).toNat : Nat) : Int)) ∧
  Copy 1 (slBase (some (⟨b17, 0, none⟩ : Addr)) (8 : Int) (((IntKind.i64.wrap ((8 : Int) + ((payload_l : Nat) : Int))).toNat : Nat) : Int) 1) ((((IntKind.i64.wrap ((8 : Int) + ((payload_l : Nat) : Int))).toNat : Nat) : Int).toNat - (8 : Int).toNat) payload_b payload_l w10 fun n52 w11 =>
  R (some ⟨b17, 0, none⟩) ((IntKind.i64.wrap ((8 : Int) + ((payload_l : Nat) : Int))).toNat) ((IntKind.i64.wrap ((8 : Int) + ((payload_l : Nat) : Int))).toNat) w11) = kstep Tryz.prog 54 Tryz.f198.results.toList (Tryz.f198.body.getD .skip) (ip_packet.RV R) (kvc Tryz.prog 54 Tryz.f198.results.toList (Tryz.f198.body.getD .skip) (ip_packet.RV R) [] 2000) [(0, [])] [(0, .int .i64 proto), (1, .int .i64 src), (2, .int .i64 dst), (3, .int .i64 id0), (4, .int .i64 offmore), (5, .slice payload_b payload_l payload_c)] w := by kernel_rfl
theorem ip_packet.B0_sound {R : Option Addr → Nat → Nat → World → Prop}  (proto src dst id0 offmore : Int) (payload_b : Option Addr) (payload_l payload_c : Nat) (w : World) (h : ip_packet.B0 proto src dst id0 offmore payload_b payload_l payload_c w   R) :
    KW Tryz.prog 198 54 (ip_packet.RV R) ([(0, [])].map (toItem (Tryz.f198.body.getD .skip))) [(0, .int .i64 proto), (1, .int .i64 src), (2, .int .i64 dst), (3, .int .i64 id0), (4, .int .i64 offmore), (5, .slice payload_b payload_l payload_c)] w := by
  exact block_spec Tryz.func198 Tryz.mixed stops_nil (Eq.mp (ip_packet.B0_eq proto src dst id0 offmore payload_b payload_l payload_c w   R ) h)
theorem ip_packet.sound (proto src dst id0 offmore : Int) (payload_b : Option Addr) (payload_l payload_c : Nat) (w : World) (R : Option Addr → Nat → Nat → World → Prop) (h : ip_packet.B0 proto src dst id0 offmore payload_b payload_l payload_c w R) : ip_packet.Call proto src dst id0 offmore payload_b payload_l payload_c w R := by
  have hc := calls_of_block (args := #[.int .i64 proto, .int .i64 src, .int .i64 dst, .int .i64 id0, .int .i64 offmore, .slice payload_b payload_l payload_c]) Tryz.func198 (body := (Tryz.f198.body.getD .skip)) (by kernel_rfl) (by kernel_rfl) (args_slot _) (ip_packet.B0_sound proto src dst id0 offmore payload_b payload_l payload_c w h)
  exact hc.mono fun e w' he => by
    obtain ⟨v, rfl, hv⟩ := he
    exact ip_packet.RV_elim hv
def frame_Sum_Add.B0 (u : Option Addr) (b : Int) (w : World)   (R : World → Prop) : Prop :=
  Pn u fun a =>
  LdI .u8 a w fun x7 =>
  Pn u fun a_1 =>
  Sts [.int .u8 (IntKind.u8.wrap (x7 + b))] a_1 0 w fun w1 =>
  Pn u fun a_2 =>
  LdI .u8 (a_2.add 1) w1.drew fun x15 =>
  Pn u fun a_3 =>
  LdI .u8 a_3 w1.drew fun x19 =>
  Pn u fun a_4 =>
  Sts [.int .u8 (IntKind.u8.wrap (x15 + x19))] (a_4.add 1) 0 w1.drew fun w2 =>
  R  w2
theorem frame_Sum_Add.B0_eq (u : Option Addr) (b : Int) (w : World)   (R : World → Prop)  :
    (
  Pn u fun a =>
  LdI .u8 a w fun x7 =>
  Pn u fun a_1 =>
  Sts [.int .u8 (IntKind.u8.wrap (x7 + b))] a_1 0 w fun w1 =>
  Pn u fun a_2 =>
  LdI .u8 (a_2.add 1) w1.drew fun x15 =>
  Pn u fun a_3 =>
  LdI .u8 a_3 w1.drew fun x19 =>
  Pn u fun a_4 =>
  Sts [.int .u8 (IntKind.u8.wrap (x15 + x19))] (a_4.add 1) 0 w1.drew fun w2 =>
  R  w2) = kstep Tryz.prog 23 Tryz.f199.results.toList (Tryz.f199.body.getD .skip) (frame_Sum_Add.RV R) (kvc Tryz.prog 23 Tryz.f199.results.toList (Tryz.f199.body.getD .skip) (frame_Sum_Add.RV R) [] 2000) [(0, [])] [(0, .pointer u), (1, .int .u8 b)] w := by kernel_rfl
theorem frame_Sum_Add.B0_sound {R : World → Prop}  (u : Option Addr) (b : Int) (w : World) (h : frame_Sum_Add.B0 u b w   R) :
    KW Tryz.prog 199 23 (frame_Sum_Add.RV R) ([(0, [])].map (toItem (Tryz.f199.body.getD .skip))) [(0, .pointer u), (1, .int .u8 b)] w := by
  exact block_spec Tryz.func199 Tryz.mixed stops_nil (Eq.mp (frame_Sum_Add.B0_eq u b w   R ) h)
theorem frame_Sum_Add.sound (u : Option Addr) (b : Int) (w : World) (R : World → Prop) (h : frame_Sum_Add.B0 u b w R) : frame_Sum_Add.Call u b w R := by
  have hc := calls_of_block (args := #[.pointer u, .int .u8 b]) Tryz.func199 (body := (Tryz.f199.body.getD .skip)) (by kernel_rfl) (by kernel_rfl) (args_slot _) (frame_Sum_Add.B0_sound u b w h)
  exact hc.mono fun e w' he => by
    obtain ⟨v, rfl, hv⟩ := he
    exact frame_Sum_Add.RV_elim hv
def seg_SendBuf_Reset.B0 (b : Option Addr) (seq : Int) (w : World)   (R : World → Prop) : Prop :=
  api_SeqAdd.Call seq (0 : Int) w fun r6 w1 =>
  Pn b fun a =>
  Sts [.int .u8 (IntKind.u8.wrap r6)] (a.add 19) 0 w1 fun w2 =>
  Pn b fun a_1 =>
  Sts [.int .i64 (0 : Int)] (a_1.add 16) 0 w2 fun w3 =>
  Pn b fun a_2 =>
  Sts [.int .i64 (0 : Int)] (a_2.add 17) 0 w3 fun w4 =>
  Pn b fun a_3 =>
  Sts [.int .i64 (0 : Int)] (a_3.add 18) 0 w4 fun w5 =>
  R  w5
theorem seg_SendBuf_Reset.B0_eq (b : Option Addr) (seq : Int) (w : World)   (R : World → Prop)  :
    (
  api_SeqAdd.Call seq (0 : Int) w fun r6 w1 =>
  Pn b fun a =>
  Sts [.int .u8 (IntKind.u8.wrap r6)] (a.add 19) 0 w1 fun w2 =>
  Pn b fun a_1 =>
  Sts [.int .i64 (0 : Int)] (a_1.add 16) 0 w2 fun w3 =>
  Pn b fun a_2 =>
  Sts [.int .i64 (0 : Int)] (a_2.add 17) 0 w3 fun w4 =>
  Pn b fun a_3 =>
  Sts [.int .i64 (0 : Int)] (a_3.add 18) 0 w4 fun w5 =>
  R  w5) = kstep Tryz.prog 21 Tryz.f200.results.toList (Tryz.f200.body.getD .skip) (seg_SendBuf_Reset.RV R) (kvc Tryz.prog 21 Tryz.f200.results.toList (Tryz.f200.body.getD .skip) (seg_SendBuf_Reset.RV R) [] 2000) [(0, [])] [(0, .pointer b), (1, .int .i64 seq)] w := by kernel_rfl
theorem seg_SendBuf_Reset.B0_sound {R : World → Prop}  (b : Option Addr) (seq : Int) (w : World) (h : seg_SendBuf_Reset.B0 b seq w   R) :
    KW Tryz.prog 200 21 (seg_SendBuf_Reset.RV R) ([(0, [])].map (toItem (Tryz.f200.body.getD .skip))) [(0, .pointer b), (1, .int .i64 seq)] w := by
  exact block_spec Tryz.func200 Tryz.mixed stops_nil (Eq.mp (seg_SendBuf_Reset.B0_eq b seq w   R ) h)
theorem seg_SendBuf_Reset.sound (b : Option Addr) (seq : Int) (w : World) (R : World → Prop) (h : seg_SendBuf_Reset.B0 b seq w R) : seg_SendBuf_Reset.Call b seq w R := by
  have hc := calls_of_block (args := #[.pointer b, .int .i64 seq]) Tryz.func200 (body := (Tryz.f200.body.getD .skip)) (by kernel_rfl) (by kernel_rfl) (args_slot _) (seg_SendBuf_Reset.B0_sound b seq w h)
  exact hc.mono fun e w' he => by
    obtain ⟨v, rfl, hv⟩ := he
    exact seg_SendBuf_Reset.RV_elim hv
def conn_Conn_mk.B2 (t8 s : Nat) (w : World)   (R : Int → Int → Int → Int → Int → Int → Option Addr → Nat → Nat → World → Prop) : Prop :=
  LdI .i64 ⟨s, 0, none⟩ w fun x30_0 =>
  LdI .i64 ⟨s, 1, none⟩ w fun x30_1 =>
  LdI .i64 ⟨s, 2, none⟩ w fun x30_2 =>
  LdI .i64 ⟨s, 3, none⟩ w fun x30_3 =>
  LdI .i64 ⟨s, 4, none⟩ w fun x30_4 =>
  LdI .i64 ⟨s, 5, none⟩ w fun x30_5 =>
  LdL ⟨s, 6, none⟩ w fun x30_6_b x30_6_l x30_6_c =>
  Sts [.int .i64 x30_0, .int .i64 x30_1, .int .i64 x30_2, .int .i64 x30_3, .int .i64 x30_4, .int .i64 x30_5, .slice x30_6_b x30_6_l x30_6_c] ⟨t8, 0, none⟩ 0 w fun w1 =>
  LdI .i64 ⟨t8, 0, none⟩ w1 fun r_0 =>
  LdI .i64 ⟨t8, 1, none⟩ w1 fun r_1 =>
  LdI .i64 ⟨t8, 2, none⟩ w1 fun r_2 =>
  LdI .i64 ⟨t8, 3, none⟩ w1 fun r_3 =>
  LdI .i64 ⟨t8, 4, none⟩ w1 fun r_4 =>
  LdI .i64 ⟨t8, 5, none⟩ w1 fun r_5 =>
  LdL ⟨t8, 6, none⟩ w1 fun r_6_b r_6_l r_6_c =>
  R r_0 r_1 r_2 r_3 r_4 r_5 r_6_b r_6_l r_6_c w1
theorem conn_Conn_mk.B2_eq (t8 s : Nat) (w : World)   (R : Int → Int → Int → Int → Int → Int → Option Addr → Nat → Nat → World → Prop)  :
    (
  LdI .i64 ⟨s, 0, none⟩ w fun x30_0 =>
  LdI .i64 ⟨s, 1, none⟩ w fun x30_1 =>
  LdI .i64 ⟨s, 2, none⟩ w fun x30_2 =>
  LdI .i64 ⟨s, 3, none⟩ w fun x30_3 =>
  LdI .i64 ⟨s, 4, none⟩ w fun x30_4 =>
  LdI .i64 ⟨s, 5, none⟩ w fun x30_5 =>
  LdL ⟨s, 6, none⟩ w fun x30_6_b x30_6_l x30_6_c =>
  Sts [.int .i64 x30_0, .int .i64 x30_1, .int .i64 x30_2, .int .i64 x30_3, .int .i64 x30_4, .int .i64 x30_5, .slice x30_6_b x30_6_l x30_6_c] ⟨t8, 0, none⟩ 0 w fun w1 =>
  LdI .i64 ⟨t8, 0, none⟩ w1 fun r_0 =>
  LdI .i64 ⟨t8, 1, none⟩ w1 fun r_1 =>
  LdI .i64 ⟨t8, 2, none⟩ w1 fun r_2 =>
  LdI .i64 ⟨t8, 3, none⟩ w1 fun r_3 =>
  LdI .i64 ⟨t8, 4, none⟩ w1 fun r_4 =>
  LdI .i64 ⟨t8, 5, none⟩ w1 fun r_5 =>
  LdL ⟨t8, 6, none⟩ w1 fun r_6_b r_6_l r_6_c =>
  R r_0 r_1 r_2 r_3 r_4 r_5 r_6_b r_6_l r_6_c w1) = kstep Tryz.prog 31 Tryz.f201.results.toList (Tryz.f201.body.getD .skip) (conn_Conn_mk.RV R) (kvc Tryz.prog 31 Tryz.f201.results.toList (Tryz.f201.body.getD .skip) (conn_Conn_mk.RV R) [] 2000) [(0, [1, 1, 1, 1, 1])] [(8, .pointer (some ⟨t8, 0, none⟩)), (10, .pointer (some ⟨s, 0, none⟩))] w := by kernel_rfl
theorem conn_Conn_mk.B2_sound {R : Int → Int → Int → Int → Int → Int → Option Addr → Nat → Nat → World → Prop}  (t8 s : Nat) (w : World) (h : conn_Conn_mk.B2 t8 s w   R) :
    KW Tryz.prog 201 31 (conn_Conn_mk.RV R) ([(0, [1, 1, 1, 1, 1])].map (toItem (Tryz.f201.body.getD .skip))) [(8, .pointer (some ⟨t8, 0, none⟩)), (10, .pointer (some ⟨s, 0, none⟩))] w := by
  exact block_spec Tryz.func201 Tryz.mixed stops_nil (Eq.mp (conn_Conn_mk.B2_eq t8 s w   R ) h)
def conn_Conn_mk.B1 (c : Option Addr) (flags seq : Int) (data_b : Option Addr) (data_l data_c t8 : Nat) (w : World)   (R : Int → Int → Int → Int → Int → Int → Option Addr → Nat → Nat → World → Prop) : Prop :=
  Pn c fun a =>
  LdP (a.add 1) w fun x17 =>
  seg_RecvBuf_Window.Call x17 w fun r18 w1 =>
  New (.cells #[.int .i64 (0 : Int), .int .i64 (0 : Int), .int .i64 (0 : Int), .int .i64 (0 : Int), .int .i64 (0 : Int), .int .i64 (0 : Int), .slice none 0 0] 177) w1 fun s_ w2 =>
  Sts [.int .i64 (0 : Int), .int .i64 (0 : Int), .int .i64 seq, .int .i64 (0 : Int), .int .i64 flags, .int .i64 r18, .slice data_b data_l data_c] ⟨s_, 0, none⟩ 0 w2 fun w3 =>
  Bm ((IntKind.i64.wrap (BitVec.ofInt IntKind.i64.bits flags &&& BitVec.ofInt IntKind.i64.bits (2 : Int)).toNat) != (0 : Int)) (
    conn_Conn_rcvNxt.Call c w3 fun r28 w4 =>
    Sts [.int .i64 r28] ⟨s_, 3, none⟩ 0 w4 fun w5 =>
    conn_Conn_mk.B2 t8 s_ w5  R) (
    conn_Conn_mk.B2 t8 s_ w3  R)
theorem conn_Conn_mk.B1_eq (c : Option Addr) (flags seq : Int) (data_b : Option Addr) (data_l data_c t8 : Nat) (w : World)   (R : Int → Int → Int → Int → Int → Int → Option Addr → Nat → Nat → World → Prop) (sB2 : Nat → Nat → World → Prop) :
    (
  Pn c fun a =>
  LdP (a.add 1) w fun x17 =>
  seg_RecvBuf_Window.Call x17 w fun r18 w1 =>
  New (.cells #[.int .i64 (0 : Int), .int .i64 (0 : Int), .int .i64 (0 : Int), .int .i64 (0 : Int), .int .i64 (0 : Int), .int .i64 (0 : Int), .slice none 0 0] 177) w1 fun s_ w2 =>
  Sts [.int .i64 (0 : Int), .int .i64 (0 : Int), .int .i64 seq, .int .i64 (0 : Int), .int .i64 flags, .int .i64 r18, .slice data_b data_l data_c] ⟨s_, 0, none⟩ 0 w2 fun w3 =>
  Bm ((IntKind.i64.wrap (BitVec.ofInt IntKind.i64.bits flags &&& BitVec.ofInt IntKind.i64.bits (2 : Int)).toNat) != (0 : Int)) (
    conn_Conn_rcvNxt.Call c w3 fun r28 w4 =>
    Sts [.int .i64 r28] ⟨s_, 3, none⟩ 0 w4 fun w5 =>
    sB2 t8 s_ w5) (
    sB2 t8 s_ w3)) = kstep Tryz.prog 31 Tryz.f201.results.toList (Tryz.f201.body.getD .skip) (conn_Conn_mk.RV R) (kvc Tryz.prog 31 Tryz.f201.results.toList (Tryz.f201.body.getD .skip) (conn_Conn_mk.RV R) [([(0, [1, 1, 1, 1, 1])], fun σ w => dK (slotOf σ 8) fun t8_ => dK (slotOf σ 10) fun s_ => sB2 t8_ s_ w)] 2000) [(0, [1, 1])] [(0, .pointer c), (1, .int .i64 flags), (2, .int .i64 seq), (3, .slice data_b data_l data_c), (8, .pointer (some ⟨t8, 0, none⟩))] w := by kernel_rfl
theorem conn_Conn_mk.B1_sound {R : Int → Int → Int → Int → Int → Int → Option Addr → Nat → Nat → World → Prop}  (c : Option Addr) (flags seq : Int) (data_b : Option Addr) (data_l data_c t8 : Nat) (w : World) (h : conn_Conn_mk.B1 c flags seq data_b data_l data_c t8 w   R) :
    KW Tryz.prog 201 31 (conn_Conn_mk.RV R) ([(0, [1, 1])].map (toItem (Tryz.f201.body.getD .skip))) [(0, .pointer c), (1, .int .i64 flags), (2, .int .i64 seq), (3, .slice data_b data_l data_c), (8, .pointer (some ⟨t8, 0, none⟩))] w := by
  exact block_spec Tryz.func201 Tryz.mixed (stops_cons (fun σ w h => by
      obtain ⟨t8_, e0, h⟩ := dK_elim h
      obtain ⟨s_, e1, h⟩ := dK_elim h
      exact (conn_Conn_mk.B2_sound  t8_ s_ w h).weaken (Sub.cons (Sub.cons (Sub.nil _) e1) e0)) stops_nil) (Eq.mp (conn_Conn_mk.B1_eq c flags seq data_b data_l data_c t8 w   R (fun t8_ s_ w => conn_Conn_mk.B2 t8_ s_ w  R)) h)
def conn_Conn_mk.B0 (c : Option Addr) (flags seq : Int) (data_b : Option Addr) (data_l data_c : Nat) (w : World)   (R : Int → Int → Int → Int → Int → Int → Option Addr → Nat → Nat → World → Prop) : Prop :=
  New (.cells #[.int .i64 (0 : Int), .int .i64 (0 : Int), .int .i64 (0 : Int), .int .i64 (0 : Int), .int .i64 (0 : Int), .int .i64 (0 : Int), .slice none 0 0] 177) w fun b8 w1 =>
  Bm data_b.isNone (
    New (.cells #[] 5) w1 fun b13 w2 =>
    conn_Conn_mk.B1 c flags seq (some ⟨b13, 0, none⟩) 0 0 b8 w2  R) (
    conn_Conn_mk.B1 c flags seq data_b data_l data_c b8 w1  R)
theorem conn_Conn_mk.B0_eq (c : Option Addr) (flags seq : Int) (data_b : Option Addr) (data_l data_c : Nat) (w : World)   (R : Int → Int → Int → Int → Int → Int → Option Addr → Nat → Nat → World → Prop) (sB1 : Option Addr → Int → Int → Option Addr → Nat → Nat → Nat → World → Prop) :
    (
  New (.cells #[.int .i64 (0 : Int), .int .i64 (0 : Int), .int .i64 (0 : Int), .int .i64 (0 : Int), .int .i64 (0 : Int), .int .i64 (0 : Int), .slice none 0 0] 177) w fun b8 w1 =>
  Bm data_b.isNone (
    New (.cells #[] 5) w1 fun b13 w2 =>
    sB1 c flags seq (some ⟨b13, 0, none⟩) 0 0 b8 w2) (
    sB1 c flags seq data_b data_l data_c b8 w1)) = kstep Tryz.prog 31 Tryz.f201.results.toList (Tryz.f201.body.getD .skip) (conn_Conn_mk.RV R) (kvc Tryz.prog 31 Tryz.f201.results.toList (Tryz.f201.body.getD .skip) (conn_Conn_mk.RV R) [([(0, [1, 1])], fun σ w => dP (slotOf σ 0) fun c_ => dI .i64 (slotOf σ 1) fun flags_ => dI .i64 (slotOf σ 2) fun seq_ => dL (slotOf σ 3) fun data_b_ data_l_ data_c_ => dK (slotOf σ 8) fun t8_ => sB1 c_ flags_ seq_ data_b_ data_l_ data_c_ t8_ w)] 2000) [(0, [])] [(0, .pointer c), (1, .int .i64 flags), (2, .int .i64 seq), (3, .slice data_b data_l data_c)] w := by kernel_rfl
theorem conn_Conn_mk.B0_sound {R : Int → Int → Int → Int → Int → Int → Option Addr → Nat → Nat → World → Prop}  (c : Option Addr) (flags seq : Int) (data_b : Option Addr) (data_l data_c : Nat) (w : World) (h : conn_Conn_mk.B0 c flags seq data_b data_l data_c w   R) :
    KW Tryz.prog 201 31 (conn_Conn_mk.RV R) ([(0, [])].map (toItem (Tryz.f201.body.getD .skip))) [(0, .pointer c), (1, .int .i64 flags), (2, .int .i64 seq), (3, .slice data_b data_l data_c)] w := by
  exact block_spec Tryz.func201 Tryz.mixed (stops_cons (fun σ w h => by
      obtain ⟨c_, e0, h⟩ := dP_elim h
      obtain ⟨flags_, e1, h⟩ := dI_elim h
      obtain ⟨seq_, e2, h⟩ := dI_elim h
      obtain ⟨data_b_, data_l_, data_c_, e3, h⟩ := dL_elim h
      obtain ⟨t8_, e4, h⟩ := dK_elim h
      exact (conn_Conn_mk.B1_sound  c_ flags_ seq_ data_b_ data_l_ data_c_ t8_ w h).weaken (Sub.cons (Sub.cons (Sub.cons (Sub.cons (Sub.cons (Sub.nil _) e4) e3) e2) e1) e0)) stops_nil) (Eq.mp (conn_Conn_mk.B0_eq c flags seq data_b data_l data_c w   R (fun c_ flags_ seq_ data_b_ data_l_ data_c_ t8_ w => conn_Conn_mk.B1 c_ flags_ seq_ data_b_ data_l_ data_c_ t8_ w  R)) h)
theorem conn_Conn_mk.sound (c : Option Addr) (flags seq : Int) (data_b : Option Addr) (data_l data_c : Nat) (w : World) (R : Int → Int → Int → Int → Int → Int → Option Addr → Nat → Nat → World → Prop) (h : conn_Conn_mk.B0 c flags seq data_b data_l data_c w R) : conn_Conn_mk.Call c flags seq data_b data_l data_c w R := by
  have hc := calls_of_block (args := #[.pointer c, .int .i64 flags, .int .i64 seq, .slice data_b data_l data_c]) Tryz.func201 (body := (Tryz.f201.body.getD .skip)) (by kernel_rfl) (by kernel_rfl) (args_slot _) (conn_Conn_mk.B0_sound c flags seq data_b data_l data_c w h)
  exact hc.mono fun e w' he => by
    obtain ⟨v, rfl, hv⟩ := he
    exact conn_Conn_mk.RV_elim hv
def seg_SendBuf_Again.B0 (b : Option Addr) (max : Int) (w : World)   (R : Int → Option Addr → Nat → Nat → World → Prop) : Prop :=
  Pn b fun a =>
  LdI .i64 (a.add 18) w fun x12 =>
  seg_least.Call max x12 w fun r13 w1 =>
  seg_SendBuf_span.Call b (0 : Int) r13 w1 fun r16_b r16_l r16_c w2 =>
  Pn b fun a_1 =>
  LdI .u8 (a_1.add 19) w2 fun x20 =>
  R (IntKind.i64.wrap x20) r16_b r16_l r16_c w2
theorem seg_SendBuf_Again.B0_eq (b : Option Addr) (max : Int) (w : World)   (R : Int → Option Addr → Nat → Nat → World → Prop)  :
    (
  Pn b fun a =>
  LdI .i64 (a.add 18) w fun x12 =>
  seg_least.Call max x12 w fun r13 w1 =>
  seg_SendBuf_span.Call b (0 : Int) r13 w1 fun r16_b r16_l r16_c w2 =>
  Pn b fun a_1 =>
  LdI .u8 (a_1.add 19) w2 fun x20 =>
  R (IntKind.i64.wrap x20) r16_b r16_l r16_c w2) = kstep Tryz.prog 23 Tryz.f202.results.toList (Tryz.f202.body.getD .skip) (seg_SendBuf_Again.RV R) (kvc Tryz.prog 23 Tryz.f202.results.toList (Tryz.f202.body.getD .skip) (seg_SendBuf_Again.RV R) [] 2000) [(0, [])] [(0, .pointer b), (1, .int .i64 max)] w := by kernel_rfl
theorem seg_SendBuf_Again.B0_sound {R : Int → Option Addr → Nat → Nat → World → Prop}  (b : Option Addr) (max : Int) (w : World) (h : seg_SendBuf_Again.B0 b max w   R) :
    KW Tryz.prog 202 23 (seg_SendBuf_Again.RV R) ([(0, [])].map (toItem (Tryz.f202.body.getD .skip))) [(0, .pointer b), (1, .int .i64 max)] w := by
  exact block_spec Tryz.func202 Tryz.mixed stops_nil (Eq.mp (seg_SendBuf_Again.B0_eq b max w   R ) h)
theorem seg_SendBuf_Again.sound (b : Option Addr) (max : Int) (w : World) (R : Int → Option Addr → Nat → Nat → World → Prop) (h : seg_SendBuf_Again.B0 b max w R) : seg_SendBuf_Again.Call b max w R := by
  have hc := calls_of_block (args := #[.pointer b, .int .i64 max]) Tryz.func202 (body := (Tryz.f202.body.getD .skip)) (by kernel_rfl) (by kernel_rfl) (args_slot _) (seg_SendBuf_Again.B0_sound b max w h)
  exact hc.mono fun e w' he => by
    obtain ⟨v, rfl, hv⟩ := he
    exact seg_SendBuf_Again.RV_elim hv
def seg_SendBuf_Next.B0 (b : Option Addr) (max : Int) (w : World)   (R : Int → Option Addr → Nat → Nat → World → Prop) : Prop :=
  Pn b fun a =>
  LdI .i64 (a.add 17) w.drew fun x13 =>
  Pn b fun a_1 =>
  LdI .i64 (a_1.add 18) w.drew fun x17 =>
  seg_least.Call max (IntKind.i64.wrap (x13 - x17)) w.drew fun r19 w1 =>
  seg_SendBuf_Nxt.Call b w1 fun r21 w2 =>
  Pn b fun a_2 =>
  LdI .i64 (a_2.add 18) w2 fun x26 =>
  seg_SendBuf_span.Call b x26 r19 w2 fun r28_b r28_l r28_c w3 =>
  Pn b fun a_3 =>
  LdI .i64 (a_3.add 18) w3 fun x32 =>
  Pn b fun a_4 =>
  Sts [.int .i64 (IntKind.i64.wrap (x32 + r19))] (a_4.add 18) 0 w3 fun w4 =>
  R r21 r28_b r28_l r28_c w4
theorem seg_SendBuf_Next.B0_eq (b : Option Addr) (max : Int) (w : World)   (R : Int → Option Addr → Nat → Nat → World → Prop)  :
    (
  Pn b fun a =>
  LdI .i64 (a.add 17) w.drew fun x13 =>
  Pn b fun a_1 =>
  LdI .i64 (a_1.add 18) w.drew fun x17 =>
  seg_least.Call max (IntKind.i64.wrap (x13 - x17)) w.drew fun r19 w1 =>
  seg_SendBuf_Nxt.Call b w1 fun r21 w2 =>
  Pn b fun a_2 =>
  LdI .i64 (a_2.add 18) w2 fun x26 =>
  seg_SendBuf_span.Call b x26 r19 w2 fun r28_b r28_l r28_c w3 =>
  Pn b fun a_3 =>
  LdI .i64 (a_3.add 18) w3 fun x32 =>
  Pn b fun a_4 =>
  Sts [.int .i64 (IntKind.i64.wrap (x32 + r19))] (a_4.add 18) 0 w3 fun w4 =>
  R r21 r28_b r28_l r28_c w4) = kstep Tryz.prog 39 Tryz.f203.results.toList (Tryz.f203.body.getD .skip) (seg_SendBuf_Next.RV R) (kvc Tryz.prog 39 Tryz.f203.results.toList (Tryz.f203.body.getD .skip) (seg_SendBuf_Next.RV R) [] 2000) [(0, [])] [(0, .pointer b), (1, .int .i64 max)] w := by kernel_rfl
theorem seg_SendBuf_Next.B0_sound {R : Int → Option Addr → Nat → Nat → World → Prop}  (b : Option Addr) (max : Int) (w : World) (h : seg_SendBuf_Next.B0 b max w   R) :
    KW Tryz.prog 203 39 (seg_SendBuf_Next.RV R) ([(0, [])].map (toItem (Tryz.f203.body.getD .skip))) [(0, .pointer b), (1, .int .i64 max)] w := by
  exact block_spec Tryz.func203 Tryz.mixed stops_nil (Eq.mp (seg_SendBuf_Next.B0_eq b max w   R ) h)
theorem seg_SendBuf_Next.sound (b : Option Addr) (max : Int) (w : World) (R : Int → Option Addr → Nat → Nat → World → Prop) (h : seg_SendBuf_Next.B0 b max w R) : seg_SendBuf_Next.Call b max w R := by
  have hc := calls_of_block (args := #[.pointer b, .int .i64 max]) Tryz.func203 (body := (Tryz.f203.body.getD .skip)) (by kernel_rfl) (by kernel_rfl) (args_slot _) (seg_SendBuf_Next.B0_sound b max w h)
  exact hc.mono fun e w' he => by
    obtain ⟨v, rfl, hv⟩ := he
    exact seg_SendBuf_Next.RV_elim hv
def seg_SendBuf_Nxt.B0 (b : Option Addr) (w : World)   (R : Int → World → Prop) : Prop :=
  Pn b fun a =>
  LdI .u8 (a.add 19) w.drew fun x6 =>
  Pn b fun a_1 =>
  LdI .i64 (a_1.add 18) w.drew fun x10 =>
  R (IntKind.i64.wrap (IntKind.u8.wrap (x6 + (IntKind.u8.wrap x10)))) w.drew
theorem seg_SendBuf_Nxt.B0_eq (b : Option Addr) (w : World)   (R : Int → World → Prop)  :
    (
  Pn b fun a =>
  LdI .u8 (a.add 19) w.drew fun x6 =>
  Pn b fun a_1 =>
  LdI .i64 (a_1.add 18) w.drew fun x10 =>
  R (IntKind.i64.wrap (IntKind.u8.wrap (x6 + (IntKind.u8.wrap x10)))) w.drew) = kstep Tryz.prog 14 Tryz.f204.results.toList (Tryz.f204.body.getD .skip) (seg_SendBuf_Nxt.RV R) (kvc Tryz.prog 14 Tryz.f204.results.toList (Tryz.f204.body.getD .skip) (seg_SendBuf_Nxt.RV R) [] 2000) [(0, [])] [(0, .pointer b)] w := by kernel_rfl
theorem seg_SendBuf_Nxt.B0_sound {R : Int → World → Prop}  (b : Option Addr) (w : World) (h : seg_SendBuf_Nxt.B0 b w   R) :
    KW Tryz.prog 204 14 (seg_SendBuf_Nxt.RV R) ([(0, [])].map (toItem (Tryz.f204.body.getD .skip))) [(0, .pointer b)] w := by
  exact block_spec Tryz.func204 Tryz.mixed stops_nil (Eq.mp (seg_SendBuf_Nxt.B0_eq b w   R ) h)
theorem seg_SendBuf_Nxt.sound (b : Option Addr) (w : World) (R : Int → World → Prop) (h : seg_SendBuf_Nxt.B0 b w R) : seg_SendBuf_Nxt.Call b w R := by
  have hc := calls_of_block (args := #[.pointer b]) Tryz.func204 (body := (Tryz.f204.body.getD .skip)) (by kernel_rfl) (by kernel_rfl) (args_slot _) (seg_SendBuf_Nxt.B0_sound b w h)
  exact hc.mono fun e w' he => by
    obtain ⟨v, rfl, hv⟩ := he
    exact seg_SendBuf_Nxt.RV_elim hv
def sock_Table_leave.L2b (t : Option Addr) (l h0 n k : Int) (w : World)  (N2 : Option Addr → Int → Int → Int → Int → World → Prop) (R : World → Prop) : Prop :=
  Bm (decide ((IntKind.i64.wrap (k + (1 : Int))) < n)) (
    sock_wrap.Call (IntKind.i64.wrap (h0 + k)) w fun r58 w1 =>
    sock_wrap.Call (IntKind.i64.wrap ((IntKind.i64.wrap (h0 + k)) + (1 : Int))) w1 fun r63 w2 =>
    Pn t fun a =>
    (0 ≤ l ∧ l < ((6 : Nat) : Int)) ∧
    (0 ≤ r63 ∧ r63 < ((2 : Nat) : Int)) ∧
    LdI .i64 (Addr.add ((Addr.add a (l.toNat * 15)).add 11) (r63.toNat * 1)) w2.drew fun x75 =>
    Pn t fun a_1 =>
    (0 ≤ l ∧ l < ((6 : Nat) : Int)) ∧
    (0 ≤ r58 ∧ r58 < ((2 : Nat) : Int)) ∧
    Sts [.int .i64 x75] (Addr.add ((Addr.add a_1 (l.toNat * 15)).add 11) (r58.toNat * 1)) 0 w2.drew fun w3 =>
    N2 t l h0 n (IntKind.i64.wrap (k + (1 : Int))) w3) (
    Pn t fun a_2 =>
    (0 ≤ l ∧ l < ((6 : Nat) : Int)) ∧
    LdI .i64 ((Addr.add a_2 (l.toNat * 15)).add 14) w.drew fun x87 =>
    Pn t fun a_3 =>
    (0 ≤ l ∧ l < ((6 : Nat) : Int)) ∧
    Sts [.int .i64 (IntKind.i64.wrap (x87 - (1 : Int)))] ((Addr.add a_3 (l.toNat * 15)).add 14) 0 w.drew fun w4 =>
    R  w4)
theorem sock_Table_leave.L2b_eq (t : Option Addr) (l h0 n k : Int) (w : World)  (N2 : Option Addr → Int → Int → Int → Int → World → Prop) (R : World → Prop)  :
    (
  Bm (decide ((IntKind.i64.wrap (k + (1 : Int))) < n)) (
    sock_wrap.Call (IntKind.i64.wrap (h0 + k)) w fun r58 w1 =>
    sock_wrap.Call (IntKind.i64.wrap ((IntKind.i64.wrap (h0 + k)) + (1 : Int))) w1 fun r63 w2 =>
    Pn t fun a =>
    (0 ≤ l ∧ l < ((6 : Nat) : Int)) ∧
    (0 ≤ r63 ∧ r63 < ((2 : Nat) : Int)) ∧
    LdI .i64 (Addr.add ((Addr.add a (l.toNat * 15)).add 11) (r63.toNat * 1)) w2.drew fun x75 =>
    Pn t fun a_1 =>
    (0 ≤ l ∧ l < ((6 : Nat) : Int)) ∧
    (0 ≤ r58 ∧ r58 < ((2 : Nat) : Int)) ∧
    Sts [.int .i64 x75] (Addr.add ((Addr.add a_1 (l.toNat * 15)).add 11) (r58.toNat * 1)) 0 w2.drew fun w3 =>
    N2 t l h0 n (IntKind.i64.wrap (k + (1 : Int))) w3) (
    Pn t fun a_2 =>
    (0 ≤ l ∧ l < ((6 : Nat) : Int)) ∧
    LdI .i64 ((Addr.add a_2 (l.toNat * 15)).add 14) w.drew fun x87 =>
    Pn t fun a_3 =>
    (0 ≤ l ∧ l < ((6 : Nat) : Int)) ∧
    Sts [.int .i64 (IntKind.i64.wrap (x87 - (1 : Int)))] ((Addr.add a_3 (l.toNat * 15)).add 14) 0 w.drew fun w4 =>
    R  w4)) = kstep Tryz.prog 93 Tryz.f205.results.toList (Tryz.f205.body.getD .skip) (sock_Table_leave.RV R) (kvc Tryz.prog 93 Tryz.f205.results.toList (Tryz.f205.body.getD .skip) (sock_Table_leave.RV R) [([(0, [1, 1, 1, 1, 0, 0, 0]), (2, [1, 1, 1, 1, 0, 0, 0]), (1, [2]), (0, [1, 1, 1, 1, 1])], fun σ w => dP (slotOf σ 0) fun t_ => dI .i64 (slotOf σ 1) fun l_ => dI .i64 (slotOf σ 6) fun h0_ => dI .i64 (slotOf σ 7) fun n_ => dI .i64 (slotOf σ 8) fun k_ => N2 t_ l_ h0_ n_ k_ w)] 2000) [(0, [1, 1, 1, 1, 0, 0, 0]), (2, [1, 1, 1, 1, 0, 0, 0]), (1, [2]), (0, [1, 1, 1, 1, 1])] [(0, .pointer t), (1, .int .i64 l), (6, .int .i64 h0), (7, .int .i64 n), (8, .int .i64 k)] w := by kernel_rfl
theorem sock_Table_leave.L2b_sound {R : World → Prop} {N2 : Option Addr → Int → Int → Int → Int → World → Prop} (hN2 : ∀ t l h0 n k w, N2 t l h0 n k w → KW Tryz.prog 205 93 (sock_Table_leave.RV R) ([(0, [1, 1, 1, 1, 0, 0, 0]), (2, [1, 1, 1, 1, 0, 0, 0]), (1, [2]), (0, [1, 1, 1, 1, 1])].map (toItem (Tryz.f205.body.getD .skip))) [(0, .pointer t), (1, .int .i64 l), (6, .int .i64 h0), (7, .int .i64 n), (8, .int .i64 k)] w) (t : Option Addr) (l h0 n k : Int) (w : World) (h : sock_Table_leave.L2b t l h0 n k w  N2 R) :
    KW Tryz.prog 205 93 (sock_Table_leave.RV R) ([(0, [1, 1, 1, 1, 0, 0, 0]), (2, [1, 1, 1, 1, 0, 0, 0]), (1, [2]), (0, [1, 1, 1, 1, 1])].map (toItem (Tryz.f205.body.getD .skip))) [(0, .pointer t), (1, .int .i64 l), (6, .int .i64 h0), (7, .int .i64 n), (8, .int .i64 k)] w := by
  exact block_spec Tryz.func205 Tryz.mixed (stops_cons (fun σ w h => by
      obtain ⟨t_, e0, h⟩ := dP_elim h
      obtain ⟨l_, e1, h⟩ := dI_elim h
      obtain ⟨h0_, e2, h⟩ := dI_elim h
      obtain ⟨n_, e3, h⟩ := dI_elim h
      obtain ⟨k_, e4, h⟩ := dI_elim h
      exact (hN2 t_ l_ h0_ n_ k_ w h).weaken (Sub.cons (Sub.cons (Sub.cons (Sub.cons (Sub.cons (Sub.nil _) e4) e3) e2) e1) e0)) stops_nil) (Eq.mp (sock_Table_leave.L2b_eq t l h0 n k w  N2 R ) h)
def sock_Table_leave.L2 (t : Option Addr) (l h0 n k : Int) (w : World)  (R : World → Prop) : Prop :=
  ∃ (I : Nat → Option Addr → Int → Int → Int → Int → World → Prop) (m : Nat), I m t l h0 n k w ∧ ∀ m t l h0 n k w, I m t l h0 n k w → sock_Table_leave.L2b t l h0 n k w  (fun t' l' h0' n' k' w' => ∃ m', m' < m ∧ I m' t' l' h0' n' k' w') R
theorem sock_Table_leave.L2_sound {R : World → Prop}  (t : Option Addr) (l h0 n k : Int) (w : World) (h : sock_Table_leave.L2 t l h0 n k w  R) :
    KW Tryz.prog 205 93 (sock_Table_leave.RV R) ([(0, [1, 1, 1, 1, 0, 0, 0]), (2, [1, 1, 1, 1, 0, 0, 0]), (1, [2]), (0, [1, 1, 1, 1, 1])].map (toItem (Tryz.f205.body.getD .skip))) [(0, .pointer t), (1, .int .i64 l), (6, .int .i64 h0), (7, .int .i64 n), (8, .int .i64 k)] w := by
  obtain ⟨I, m, hBase, hr⟩ := h
  refine KW.loop (fun m σ w => ∃ (t : Option Addr) (l h0 n k : Int), σ = [(0, .pointer t), (1, .int .i64 l), (6, .int .i64 h0), (7, .int .i64 n), (8, .int .i64 k)] ∧ I m t l h0 n k w) ?_ m _ w ⟨t, l, h0, n, k, rfl, hBase⟩
  rintro m ih σ w ⟨t, l, h0, n, k, rfl, hI⟩
  exact sock_Table_leave.L2b_sound  (N2 := fun t' l' h0' n' k' w' => ∃ m', m' < m ∧ I m' t' l' h0' n' k' w') (fun t' l' h0' n' k' w' hx => by obtain ⟨m', hlt, hI'⟩ := hx; exact ih m' hlt _ w' ⟨t', l', h0', n', k', rfl, hI'⟩) t l h0 n k w (hr m t l h0 n k w hI)
def sock_Table_leave.B1 (t : Option Addr) (l sd h0 n k : Int) (t43 : Bool) (w : World) (N1 : Option Addr → Int → Int → Int → Int → Int → World → Prop)  (R : World → Prop) : Prop :=
  Bm t43 (
    N1 t l sd h0 n (IntKind.i64.wrap (k + (1 : Int))) w) (
    Bm (k == n) (
      R  w) (
      sock_Table_leave.L2 t l h0 n k w  R))
theorem sock_Table_leave.B1_eq (t : Option Addr) (l sd h0 n k : Int) (t43 : Bool) (w : World) (N1 : Option Addr → Int → Int → Int → Int → Int → World → Prop)  (R : World → Prop) (sL2 : Option Addr → Int → Int → Int → Int → World → Prop) :
    (
  Bm t43 (
    N1 t l sd h0 n (IntKind.i64.wrap (k + (1 : Int))) w) (
    Bm (k == n) (
      R  w) (
      sL2 t l h0 n k w))) = kstep Tryz.prog 93 Tryz.f205.results.toList (Tryz.f205.body.getD .skip) (sock_Table_leave.RV R) (kvc Tryz.prog 93 Tryz.f205.results.toList (Tryz.f205.body.getD .skip) (sock_Table_leave.RV R) [([(0, [1, 1, 0, 0, 0]), (2, [1, 1, 0, 0, 0]), (1, [0]), (0, [1, 1, 1])], fun σ w => dP (slotOf σ 0) fun t_ => dI .i64 (slotOf σ 1) fun l_ => dI .i64 (slotOf σ 2) fun sd_ => dI .i64 (slotOf σ 6) fun h0_ => dI .i64 (slotOf σ 7) fun n_ => dI .i64 (slotOf σ 8) fun k_ => N1 t_ l_ sd_ h0_ n_ k_ w),
    ([(0, [1, 1, 1, 1, 0, 0, 0]), (2, [1, 1, 1, 1, 0, 0, 0]), (1, [2]), (0, [1, 1, 1, 1, 1])], fun σ w => dP (slotOf σ 0) fun t_ => dI .i64 (slotOf σ 1) fun l_ => dI .i64 (slotOf σ 6) fun h0_ => dI .i64 (slotOf σ 7) fun n_ => dI .i64 (slotOf σ 8) fun k_ => sL2 t_ l_ h0_ n_ k_ w)] 2000) [(0, [1, 1, 0, 0, 0, 0, 1]), (0, [1, 1, 0, 0, 0, 1]), (2, [1, 1, 0, 0, 0]), (1, [0]), (0, [1, 1, 1])] [(0, .pointer t), (1, .int .i64 l), (2, .int .i64 sd), (6, .int .i64 h0), (7, .int .i64 n), (8, .int .i64 k), (43, .bool t43)] w := by kernel_rfl
theorem sock_Table_leave.B1_sound {R : World → Prop} {N1 : Option Addr → Int → Int → Int → Int → Int → World → Prop} (hN1 : ∀ t l sd h0 n k w, N1 t l sd h0 n k w → KW Tryz.prog 205 93 (sock_Table_leave.RV R) ([(0, [1, 1, 0, 0, 0]), (2, [1, 1, 0, 0, 0]), (1, [0]), (0, [1, 1, 1])].map (toItem (Tryz.f205.body.getD .skip))) [(0, .pointer t), (1, .int .i64 l), (2, .int .i64 sd), (6, .int .i64 h0), (7, .int .i64 n), (8, .int .i64 k)] w) (t : Option Addr) (l sd h0 n k : Int) (t43 : Bool) (w : World) (h : sock_Table_leave.B1 t l sd h0 n k t43 w N1  R) :
    KW Tryz.prog 205 93 (sock_Table_leave.RV R) ([(0, [1, 1, 0, 0, 0, 0, 1]), (0, [1, 1, 0, 0, 0, 1]), (2, [1, 1, 0, 0, 0]), (1, [0]), (0, [1, 1, 1])].map (toItem (Tryz.f205.body.getD .skip))) [(0, .pointer t), (1, .int .i64 l), (2, .int .i64 sd), (6, .int .i64 h0), (7, .int .i64 n), (8, .int .i64 k), (43, .bool t43)] w := by
  exact block_spec Tryz.func205 Tryz.mixed (stops_cons (fun σ w h => by
      obtain ⟨t_, e0, h⟩ := dP_elim h
      obtain ⟨l_, e1, h⟩ := dI_elim h
      obtain ⟨sd_, e2, h⟩ := dI_elim h
      obtain ⟨h0_, e3, h⟩ := dI_elim h
      obtain ⟨n_, e4, h⟩ := dI_elim h
      obtain ⟨k_, e5, h⟩ := dI_elim h
      exact (hN1 t_ l_ sd_ h0_ n_ k_ w h).weaken (Sub.cons (Sub.cons (Sub.cons (Sub.cons (Sub.cons (Sub.cons (Sub.nil _) e5) e4) e3) e2) e1) e0)) (stops_cons (fun σ w h => by
      obtain ⟨t_, e0, h⟩ := dP_elim h
      obtain ⟨l_, e1, h⟩ := dI_elim h
      obtain ⟨h0_, e2, h⟩ := dI_elim h
      obtain ⟨n_, e3, h⟩ := dI_elim h
      obtain ⟨k_, e4, h⟩ := dI_elim h
      exact (sock_Table_leave.L2_sound  t_ l_ h0_ n_ k_ w h).weaken (Sub.cons (Sub.cons (Sub.cons (Sub.cons (Sub.cons (Sub.nil _) e4) e3) e2) e1) e0)) stops_nil)) (Eq.mp (sock_Table_leave.B1_eq t l sd h0 n k t43 w N1  R (fun t_ l_ h0_ n_ k_ w => sock_Table_leave.L2 t_ l_ h0_ n_ k_ w  R)) h)
def sock_Table_leave.L1b (t : Option Addr) (l sd h0 n k : Int) (w : World)  (N1 : Option Addr → Int → Int → Int → Int → Int → World → Prop) (R : World → Prop) : Prop :=
  Bm (decide (k < n)) (
    Pn t fun a =>
    (0 ≤ l ∧ l < ((6 : Nat) : Int)) ∧
    sock_wrap.Call (IntKind.i64.wrap (h0 + k)) w.drew fun r34 w1 =>
    (0 ≤ r34 ∧ r34 < ((2 : Nat) : Int)) ∧
    LdI .i64 (Addr.add ((Addr.add a (l.toNat * 15)).add 11) (r34.toNat * 1)) w1 fun x40 =>
    sock_Table_leave.B1 t l sd h0 n k (x40 != sd) w1 N1 R) (
    sock_Table_leave.B1 t l sd h0 n k false w.drew N1 R)
theorem sock_Table_leave.L1b_eq (t : Option Addr) (l sd h0 n k : Int) (w : World)  (N1 : Option Addr → Int → Int → Int → Int → Int → World → Prop) (R : World → Prop) (sB1 : Option Addr → Int → Int → Int → Int → Int → Bool → World → Prop) :
    (
  Bm (decide (k < n)) (
    Pn t fun a =>
    (0 ≤ l ∧ l < ((6 : Nat) : Int)) ∧
    sock_wrap.Call (IntKind.i64.wrap (h0 + k)) w.drew fun r34 w1 =>
    (0 ≤ r34 ∧ r34 < ((2 : Nat) : Int)) ∧
    LdI .i64 (Addr.add ((Addr.add a (l.toNat * 15)).add 11) (r34.toNat * 1)) w1 fun x40 =>
    sB1 t l sd h0 n k (x40 != sd) w1) (
    sB1 t l sd h0 n k false w.drew)) = kstep Tryz.prog 93 Tryz.f205.results.toList (Tryz.f205.body.getD .skip) (sock_Table_leave.RV R) (kvc Tryz.prog 93 Tryz.f205.results.toList (Tryz.f205.body.getD .skip) (sock_Table_leave.RV R) [([(0, [1, 1, 0, 0, 0, 0, 1]), (0, [1, 1, 0, 0, 0, 1]), (2, [1, 1, 0, 0, 0]), (1, [0]), (0, [1, 1, 1])], fun σ w => dP (slotOf σ 0) fun t_ => dI .i64 (slotOf σ 1) fun l_ => dI .i64 (slotOf σ 2) fun sd_ => dI .i64 (slotOf σ 6) fun h0_ => dI .i64 (slotOf σ 7) fun n_ => dI .i64 (slotOf σ 8) fun k_ => dB (slotOf σ 43) fun t43_ => sB1 t_ l_ sd_ h0_ n_ k_ t43_ w)] 2000) [(0, [1, 1, 0, 0, 0]), (2, [1, 1, 0, 0, 0]), (1, [0]), (0, [1, 1, 1])] [(0, .pointer t), (1, .int .i64 l), (2, .int .i64 sd), (6, .int .i64 h0), (7, .int .i64 n), (8, .int .i64 k)] w := by kernel_rfl
theorem sock_Table_leave.L1b_sound {R : World → Prop} {N1 : Option Addr → Int → Int → Int → Int → Int → World → Prop} (hN1 : ∀ t l sd h0 n k w, N1 t l sd h0 n k w → KW Tryz.prog 205 93 (sock_Table_leave.RV R) ([(0, [1, 1, 0, 0, 0]), (2, [1, 1, 0, 0, 0]), (1, [0]), (0, [1, 1, 1])].map (toItem (Tryz.f205.body.getD .skip))) [(0, .pointer t), (1, .int .i64 l), (2, .int .i64 sd), (6, .int .i64 h0), (7, .int .i64 n), (8, .int .i64 k)] w) (t : Option Addr) (l sd h0 n k : Int) (w : World) (h : sock_Table_leave.L1b t l sd h0 n k w  N1 R) :
    KW Tryz.prog 205 93 (sock_Table_leave.RV R) ([(0, [1, 1, 0, 0, 0]), (2, [1, 1, 0, 0, 0]), (1, [0]), (0, [1, 1, 1])].map (toItem (Tryz.f205.body.getD .skip))) [(0, .pointer t), (1, .int .i64 l), (2, .int .i64 sd), (6, .int .i64 h0), (7, .int .i64 n), (8, .int .i64 k)] w := by
  exact block_spec Tryz.func205 Tryz.mixed (stops_cons (fun σ w h => by
      obtain ⟨t_, e0, h⟩ := dP_elim h
      obtain ⟨l_, e1, h⟩ := dI_elim h
      obtain ⟨sd_, e2, h⟩ := dI_elim h
      obtain ⟨h0_, e3, h⟩ := dI_elim h
      obtain ⟨n_, e4, h⟩ := dI_elim h
      obtain ⟨k_, e5, h⟩ := dI_elim h
      obtain ⟨t43_, e6, h⟩ := dB_elim h
      exact (sock_Table_leave.B1_sound hN1 t_ l_ sd_ h0_ n_ k_ t43_ w h).weaken (Sub.cons (Sub.cons (Sub.cons (Sub.cons (Sub.cons (Sub.cons (Sub.cons (Sub.nil _) e6) e5) e4) e3) e2) e1) e0)) stops_nil) (Eq.mp (sock_Table_leave.L1b_eq t l sd h0 n k w  N1 R (fun t_ l_ sd_ h0_ n_ k_ t43_ w => sock_Table_leave.B1 t_ l_ sd_ h0_ n_ k_ t43_ w N1 R)) h)
def sock_Table_leave.L1 (t : Option Addr) (l sd h0 n k : Int) (w : World)  (R : World → Prop) : Prop :=
  ∃ (I : Nat → Option Addr → Int → Int → Int → Int → Int → World → Prop) (m : Nat), I m t l sd h0 n k w ∧ ∀ m t l sd h0 n k w, I m t l sd h0 n k w → sock_Table_leave.L1b t l sd h0 n k w  (fun t' l' sd' h0' n' k' w' => ∃ m', m' < m ∧ I m' t' l' sd' h0' n' k' w') R
theorem sock_Table_leave.L1_sound {R : World → Prop}  (t : Option Addr) (l sd h0 n k : Int) (w : World) (h : sock_Table_leave.L1 t l sd h0 n k w  R) :
    KW Tryz.prog 205 93 (sock_Table_leave.RV R) ([(0, [1, 1, 0, 0, 0]), (2, [1, 1, 0, 0, 0]), (1, [0]), (0, [1, 1, 1])].map (toItem (Tryz.f205.body.getD .skip))) [(0, .pointer t), (1, .int .i64 l), (2, .int .i64 sd), (6, .int .i64 h0), (7, .int .i64 n), (8, .int .i64 k)] w := by
  obtain ⟨I, m, hBase, hr⟩ := h
  refine KW.loop (fun m σ w => ∃ (t : Option Addr) (l sd h0 n k : Int), σ = [(0, .pointer t), (1, .int .i64 l), (2, .int .i64 sd), (6, .int .i64 h0), (7, .int .i64 n), (8, .int .i64 k)] ∧ I m t l sd h0 n k w) ?_ m _ w ⟨t, l, sd, h0, n, k, rfl, hBase⟩
  rintro m ih σ w ⟨t, l, sd, h0, n, k, rfl, hI⟩
  exact sock_Table_leave.L1b_sound  (N1 := fun t' l' sd' h0' n' k' w' => ∃ m', m' < m ∧ I m' t' l' sd' h0' n' k' w') (fun t' l' sd' h0' n' k' w' hx => by obtain ⟨m', hlt, hI'⟩ := hx; exact ih m' hlt _ w' ⟨t', l', sd', h0', n', k', rfl, hI'⟩) t l sd h0 n k w (hr m t l sd h0 n k w hI)
def sock_Table_leave.B0 (t : Option Addr) (l sd : Int) (w : World)   (R : World → Prop) : Prop :=
  Pn t fun a =>
  (0 ≤ l ∧ l < ((6 : Nat) : Int)) ∧
  LdI .i64 ((Addr.add a (l.toNat * 15)).add 13) w.drew fun x17 =>
  Pn t fun a_1 =>
  (0 ≤ l ∧ l < ((6 : Nat) : Int)) ∧
  LdI .i64 ((Addr.add a_1 (l.toNat * 15)).add 14) w.drew fun x24 =>
  sock_Table_leave.L1 t l sd x17 x24 (0 : Int) w.drew  R
theorem sock_Table_leave.B0_eq (t : Option Addr) (l sd : Int) (w : World)   (R : World → Prop) (sL1 : Option Addr → Int → Int → Int → Int → Int → World → Prop) :
    (
  Pn t fun a =>
  (0 ≤ l ∧ l < ((6 : Nat) : Int)) ∧
  LdI .i64 ((Addr.add a (l.toNat * 15)).add 13) w.drew fun x17 =>
  Pn t fun a_1 =>
  (0 ≤ l ∧ l < ((6 : Nat) : Int)) ∧
  LdI .i64 ((Addr.add a_1 (l.toNat * 15)).add 14) w.drew fun x24 =>
  sL1 t l sd x17 x24 (0 : Int) w.drew) = kstep Tryz.prog 93 Tryz.f205.results.toList (Tryz.f205.body.getD .skip) (sock_Table_leave.RV R) (kvc Tryz.prog 93 Tryz.f205.results.toList (Tryz.f205.body.getD .skip) (sock_Table_leave.RV R) [([(0, [1, 1, 0, 0, 0]), (2, [1, 1, 0, 0, 0]), (1, [0]), (0, [1, 1, 1])], fun σ w => dP (slotOf σ 0) fun t_ => dI .i64 (slotOf σ 1) fun l_ => dI .i64 (slotOf σ 2) fun sd_ => dI .i64 (slotOf σ 6) fun h0_ => dI .i64 (slotOf σ 7) fun n_ => dI .i64 (slotOf σ 8) fun k_ => sL1 t_ l_ sd_ h0_ n_ k_ w)] 2000) [(0, [])] [(0, .pointer t), (1, .int .i64 l), (2, .int .i64 sd)] w := by kernel_rfl
theorem sock_Table_leave.B0_sound {R : World → Prop}  (t : Option Addr) (l sd : Int) (w : World) (h : sock_Table_leave.B0 t l sd w   R) :
    KW Tryz.prog 205 93 (sock_Table_leave.RV R) ([(0, [])].map (toItem (Tryz.f205.body.getD .skip))) [(0, .pointer t), (1, .int .i64 l), (2, .int .i64 sd)] w := by
  exact block_spec Tryz.func205 Tryz.mixed (stops_cons (fun σ w h => by
      obtain ⟨t_, e0, h⟩ := dP_elim h
      obtain ⟨l_, e1, h⟩ := dI_elim h
      obtain ⟨sd_, e2, h⟩ := dI_elim h
      obtain ⟨h0_, e3, h⟩ := dI_elim h
      obtain ⟨n_, e4, h⟩ := dI_elim h
      obtain ⟨k_, e5, h⟩ := dI_elim h
      exact (sock_Table_leave.L1_sound  t_ l_ sd_ h0_ n_ k_ w h).weaken (Sub.cons (Sub.cons (Sub.cons (Sub.cons (Sub.cons (Sub.cons (Sub.nil _) e5) e4) e3) e2) e1) e0)) stops_nil) (Eq.mp (sock_Table_leave.B0_eq t l sd w   R (fun t_ l_ sd_ h0_ n_ k_ w => sock_Table_leave.L1 t_ l_ sd_ h0_ n_ k_ w  R)) h)
theorem sock_Table_leave.sound (t : Option Addr) (l sd : Int) (w : World) (R : World → Prop) (h : sock_Table_leave.B0 t l sd w R) : sock_Table_leave.Call t l sd w R := by
  have hc := calls_of_block (args := #[.pointer t, .int .i64 l, .int .i64 sd]) Tryz.func205 (body := (Tryz.f205.body.getD .skip)) (by kernel_rfl) (by kernel_rfl) (args_slot _) (sock_Table_leave.B0_sound t l sd w h)
  exact hc.mono fun e w' he => by
    obtain ⟨v, rfl, hv⟩ := he
    exact sock_Table_leave.RV_elim hv
def sock_Table_link.B0 (t : Option Addr) (i : Int) (w : World)   (R : World → Prop) : Prop :=
  Pn t fun a =>
  (0 ≤ i ∧ i < ((6 : Nat) : Int)) ∧
  LdI .i64 (((Addr.add a (i.toNat * 15)).add 1).add 2) w.drew fun x12 =>
  Pn t fun a_1 =>
  (0 ≤ i ∧ i < ((6 : Nat) : Int)) ∧
  LdI .i64 (((Addr.add a_1 (i.toNat * 15)).add 1).add 3) w.drew fun x20 =>
  Pn t fun a_2 =>
  (0 ≤ i ∧ i < ((6 : Nat) : Int)) ∧
  LdI .i64 (((Addr.add a_2 (i.toNat * 15)).add 1).add 4) w.drew fun x28 =>
  sock_hash.Call x12 x20 x28 w.drew fun r29 w1 =>
  Pn t fun a_3 =>
  (0 ≤ r29 ∧ r29 < ((4 : Nat) : Int)) ∧
  LdI .i64 (Addr.add (a_3.add 91) (r29.toNat * 1)) w1.drew fun x37 =>
  Pn t fun a_4 =>
  (0 ≤ i ∧ i < ((6 : Nat) : Int)) ∧
  Sts [.int .i64 x37] ((Addr.add a_4 (i.toNat * 15)).add 9) 0 w1.drew fun w2 =>
  Pn t fun a_5 =>
  (0 ≤ r29 ∧ r29 < ((4 : Nat) : Int)) ∧
  Sts [.int .i64 i] (Addr.add (a_5.add 91) (r29.toNat * 1)) 0 w2 fun w3 =>
  R  w3
theorem sock_Table_link.B0_eq (t : Option Addr) (i : Int) (w : World)   (R : World → Prop)  :
    (
  Pn t fun a =>
  (0 ≤ i ∧ i < ((6 : Nat) : Int)) ∧
  LdI .i64 (((Addr.add a (i.toNat * 15)).add 1).add 2) w.drew fun x12 =>
  Pn t fun a_1 =>
  (0 ≤ i ∧ i < ((6 : Nat) : Int)) ∧
  LdI .i64 (((Addr.add a_1 (i.toNat * 15)).add 1).add 3) w.drew fun x20 =>
  Pn t fun a_2 =>
  (0 ≤ i ∧ i < ((6 : Nat) : Int)) ∧
  LdI .i64 (((Addr.add a_2 (i.toNat * 15)).add 1).add 4) w.drew fun x28 =>
  sock_hash.Call x12 x20 x28 w.drew fun r29 w1 =>
  Pn t fun a_3 =>
  (0 ≤ r29 ∧ r29 < ((4 : Nat) : Int)) ∧
  LdI .i64 (Addr.add (a_3.add 91) (r29.toNat * 1)) w1.drew fun x37 =>
  Pn t fun a_4 =>
  (0 ≤ i ∧ i < ((6 : Nat) : Int)) ∧
  Sts [.int .i64 x37] ((Addr.add a_4 (i.toNat * 15)).add 9) 0 w1.drew fun w2 =>
  Pn t fun a_5 =>
  (0 ≤ r29 ∧ r29 < ((4 : Nat) : Int)) ∧
  Sts [.int .i64 i] (Addr.add (a_5.add 91) (r29.toNat * 1)) 0 w2 fun w3 =>
  R  w3) = kstep Tryz.prog 48 Tryz.f206.results.toList (Tryz.f206.body.getD .skip) (sock_Table_link.RV R) (kvc Tryz.prog 48 Tryz.f206.results.toList (Tryz.f206.body.getD .skip) (sock_Table_link.RV R) [] 2000) [(0, [])] [(0, .pointer t), (1, .int .i64 i)] w := by kernel_rfl
theorem sock_Table_link.B0_sound {R : World → Prop}  (t : Option Addr) (i : Int) (w : World) (h : sock_Table_link.B0 t i w   R) :
    KW Tryz.prog 206 48 (sock_Table_link.RV R) ([(0, [])].map (toItem (Tryz.f206.body.getD .skip))) [(0, .pointer t), (1, .int .i64 i)] w := by
  exact block_spec Tryz.func206 Tryz.mixed stops_nil (Eq.mp (sock_Table_link.B0_eq t i w   R ) h)
theorem sock_Table_link.sound (t : Option Addr) (i : Int) (w : World) (R : World → Prop) (h : sock_Table_link.B0 t i w R) : sock_Table_link.Call t i w R := by
  have hc := calls_of_block (args := #[.pointer t, .int .i64 i]) Tryz.func206 (body := (Tryz.f206.body.getD .skip)) (by kernel_rfl) (by kernel_rfl) (args_slot _) (sock_Table_link.B0_sound t i w h)
  exact hc.mono fun e w' he => by
    obtain ⟨v, rfl, hv⟩ := he
    exact sock_Table_link.RV_elim hv
def sock_wrap.B0 (k : Int) (w : World)   (R : Int → World → Prop) : Prop :=
  Bm (decide (k ≥ (2 : Int))) (
    R (IntKind.i64.wrap (k - (2 : Int))) w) (
    R k w)
theorem sock_wrap.B0_eq (k : Int) (w : World)   (R : Int → World → Prop)  :
    (
  Bm (decide (k ≥ (2 : Int))) (
    R (IntKind.i64.wrap (k - (2 : Int))) w) (
    R k w)) = kstep Tryz.prog 8 Tryz.f207.results.toList (Tryz.f207.body.getD .skip) (sock_wrap.RV R) (kvc Tryz.prog 8 Tryz.f207.results.toList (Tryz.f207.body.getD .skip) (sock_wrap.RV R) [] 2000) [(0, [])] [(0, .int .i64 k)] w := by kernel_rfl
theorem sock_wrap.B0_sound {R : Int → World → Prop}  (k : Int) (w : World) (h : sock_wrap.B0 k w   R) :
    KW Tryz.prog 207 8 (sock_wrap.RV R) ([(0, [])].map (toItem (Tryz.f207.body.getD .skip))) [(0, .int .i64 k)] w := by
  exact block_spec Tryz.func207 Tryz.mixed stops_nil (Eq.mp (sock_wrap.B0_eq k w   R ) h)
theorem sock_wrap.sound (k : Int) (w : World) (R : Int → World → Prop) (h : sock_wrap.B0 k w R) : sock_wrap.Call k w R := by
  have hc := calls_of_block (args := #[.int .i64 k]) Tryz.func207 (body := (Tryz.f207.body.getD .skip)) (by kernel_rfl) (by kernel_rfl) (args_slot _) (sock_wrap.B0_sound k w h)
  exact hc.mono fun e w' he => by
    obtain ⟨v, rfl, hv⟩ := he
    exact sock_wrap.RV_elim hv
def seg_least.B1 (max : Int) (w : World)   (R : Int → World → Prop) : Prop :=
  Bm (decide (max < (0 : Int))) (
    R (0 : Int) w) (
    R max w)
theorem seg_least.B1_eq (max : Int) (w : World)   (R : Int → World → Prop)  :
    (
  Bm (decide (max < (0 : Int))) (
    R (0 : Int) w) (
    R max w)) = kstep Tryz.prog 12 Tryz.f208.results.toList (Tryz.f208.body.getD .skip) (seg_least.RV R) (kvc Tryz.prog 12 Tryz.f208.results.toList (Tryz.f208.body.getD .skip) (seg_least.RV R) [] 2000) [(0, [1, 1])] [(0, .int .i64 max)] w := by kernel_rfl
theorem seg_least.B1_sound {R : Int → World → Prop}  (max : Int) (w : World) (h : seg_least.B1 max w   R) :
    KW Tryz.prog 208 12 (seg_least.RV R) ([(0, [1, 1])].map (toItem (Tryz.f208.body.getD .skip))) [(0, .int .i64 max)] w := by
  exact block_spec Tryz.func208 Tryz.mixed stops_nil (Eq.mp (seg_least.B1_eq max w   R ) h)
def seg_least.B0 (max have0 : Int) (w : World)   (R : Int → World → Prop) : Prop :=
  Bm (decide (max > have0)) (
    seg_least.B1 have0 w  R) (
    seg_least.B1 max w  R)
theorem seg_least.B0_eq (max have0 : Int) (w : World)   (R : Int → World → Prop) (sB1 : Int → World → Prop) :
    (
  Bm (decide (max > have0)) (
    sB1 have0 w) (
    sB1 max w)) = kstep Tryz.prog 12 Tryz.f208.results.toList (Tryz.f208.body.getD .skip) (seg_least.RV R) (kvc Tryz.prog 12 Tryz.f208.results.toList (Tryz.f208.body.getD .skip) (seg_least.RV R) [([(0, [1, 1])], fun σ w => dI .i64 (slotOf σ 0) fun max_ => sB1 max_ w)] 2000) [(0, [])] [(0, .int .i64 max), (1, .int .i64 have0)] w := by kernel_rfl
theorem seg_least.B0_sound {R : Int → World → Prop}  (max have0 : Int) (w : World) (h : seg_least.B0 max have0 w   R) :
    KW Tryz.prog 208 12 (seg_least.RV R) ([(0, [])].map (toItem (Tryz.f208.body.getD .skip))) [(0, .int .i64 max), (1, .int .i64 have0)] w := by
  exact block_spec Tryz.func208 Tryz.mixed (stops_cons (fun σ w h => by
      obtain ⟨max_, e0, h⟩ := dI_elim h
      exact (seg_least.B1_sound  max_ w h).weaken (Sub.cons (Sub.nil _) e0)) stops_nil) (Eq.mp (seg_least.B0_eq max have0 w   R (fun max_ w => seg_least.B1 max_ w  R)) h)
theorem seg_least.sound (max have0 : Int) (w : World) (R : Int → World → Prop) (h : seg_least.B0 max have0 w R) : seg_least.Call max have0 w R := by
  have hc := calls_of_block (args := #[.int .i64 max, .int .i64 have0]) Tryz.func208 (body := (Tryz.f208.body.getD .skip)) (by kernel_rfl) (by kernel_rfl) (args_slot _) (seg_least.B0_sound max have0 w h)
  exact hc.mono fun e w' he => by
    obtain ⟨v, rfl, hv⟩ := he
    exact seg_least.RV_elim hv
def seg_RecvBuf_first.B1 (b : Option Addr) (n : Int) (out_b : Option Addr) (out_l out_c : Nat) (at0 run : Int) (w : World)   (R : Option Addr → Nat → Nat → World → Prop) : Prop :=
  Pn b fun a =>
  (0 ≤ (IntKind.i64.wrap (at0 + run)) ∧ (IntKind.i64.wrap (at0 + run)) ≤ ((16 : Nat) : Int)) ∧
  (0 ≤ at0 ∧ at0 ≤ (IntKind.i64.wrap (at0 + run))) ∧
  Copy 1 out_b out_l (some (slBaseA a at0 ((16 : Nat) : Int) 1)) ((IntKind.i64.wrap (at0 + run)).toNat - at0.toNat) w fun n37 w1 =>
  (0 ≤ run ∧ run ≤ ((out_l : Nat) : Int)) ∧
  Pn b fun a_1 =>
  (0 ≤ (IntKind.i64.wrap (n - run)) ∧ (IntKind.i64.wrap (n - run)) ≤ ((16 : Nat) : Int)) ∧
  Copy 1 (slBase out_b run ((out_c : Nat) : Int) 1) (((out_l : Nat) : Int).toNat - run.toNat) (some (slBaseA a_1 ((0 : Nat) : Int) ((16 : Nat) : Int) 1)) ((IntKind.i64.wrap (n - run)).toNat - ((0 : Nat) : Int).toNat) w1.drew fun n48 w2 =>
  R out_b out_l out_c w2
theorem seg_RecvBuf_first.B1_eq (b : Option Addr) (n : Int) (out_b : Option Addr) (out_l out_c : Nat) (at0 run : Int) (w : World)   (R : Option Addr → Nat → Nat → World → Prop)  :
    (
  Pn b fun a =>
  (0 ≤ (IntKind.i64.wrap (at0 + run)) ∧ (IntKind.i64.wrap (at0 + run)) ≤ ((16 : Nat) : Int)) ∧
  (0 ≤ at0 ∧ at0 ≤ (IntKind.i64.wrap (at0 + run))) ∧
  Copy 1 out_b out_l (some (slBaseA a at0 ((16 : Nat) : Int) 1)) ((IntKind.i64.wrap (at0 + run)).toNat - at0.toNat) w fun n37 w1 =>
  (0 ≤ run ∧ run ≤ ((out_l : Nat) : Int)) ∧
  Pn b fun a_1 =>
  (0 ≤ (IntKind.i64.wrap (n - run)) ∧ (IntKind.i64.wrap (n - run)) ≤ ((16 : Nat) : Int)) ∧
  Copy 1 (slBase out_b run ((out_c : Nat) : Int) 1) (((out_l : Nat) : Int).toNat - run.toNat) (some (slBaseA a_1 ((0 : Nat) : Int) ((16 : Nat) : Int) 1)) ((IntKind.i64.wrap (n - run)).toNat - ((0 : Nat) : Int).toNat) w1.drew fun n48 w2 =>
  R out_b out_l out_c w2) = kstep Tryz.prog 50 Tryz.f209.results.toList (Tryz.f209.body.getD .skip) (seg_RecvBuf_first.RV R) (kvc Tryz.prog 50 Tryz.f209.results.toList (Tryz.f209.body.getD .skip) (seg_RecvBuf_first.RV R) [] 2000) [(0, [1, 1, 1, 1, 1])] [(0, .pointer b), (1, .int .i64 n), (5, .slice out_b out_l out_c), (6, .int .i64 at0), (7, .int .i64 run)] w := by kernel_rfl
theorem seg_RecvBuf_first.B1_sound {R : Option Addr → Nat → Nat → World → Prop}  (b : Option Addr) (n : Int) (out_b : Option Addr) (out_l out_c : Nat) (at0 run : Int) (w : World) (h : seg_RecvBuf_first.B1 b n out_b out_l out_c at0 run w   R) :
    KW Tryz.prog 209 50 (seg_RecvBuf_first.RV R) ([(0, [1, 1, 1, 1, 1])].map (toItem (Tryz.f209.body.getD .skip))) [(0, .pointer b), (1, .int .i64 n), (5, .slice out_b out_l out_c), (6, .int .i64 at0), (7, .int .i64 run)] w := by
  exact block_spec Tryz.func209 Tryz.mixed stops_nil (Eq.mp (seg_RecvBuf_first.B1_eq b n out_b out_l out_c at0 run w   R ) h)
def seg_RecvBuf_first.B0 (b : Option Addr) (n : Int) (w : World)   (R : Option Addr → Nat → Nat → World → Prop) : Prop :=
  Make 5 (.int .u8 (0 : Int)) 1 1 n n w fun b9 w1 =>
  Pn b fun a =>
  LdI .u8 (a.add 16) w1.drew fun x13 =>
  Pn b fun a_1 =>
  LdI .i64 (a_1.add 17) w1.drew fun x19 =>
  (16 : Int) ≠ 0 ∧
  Bm (decide ((IntKind.i64.wrap ((16 : Int) - ((IntKind.i64.wrap ((IntKind.i64.wrap ((IntKind.i64.wrap x13) + (256 : Int))) - x19)).tmod (16 : Int)))) > n)) (
    seg_RecvBuf_first.B1 b n (some ⟨b9, 0, none⟩) n.toNat n.toNat ((IntKind.i64.wrap ((IntKind.i64.wrap ((IntKind.i64.wrap x13) + (256 : Int))) - x19)).tmod (16 : Int)) n w1.drew  R) (
    seg_RecvBuf_first.B1 b n (some ⟨b9, 0, none⟩) n.toNat n.toNat ((IntKind.i64.wrap ((IntKind.i64.wrap ((IntKind.i64.wrap x13) + (256 : Int))) - x19)).tmod (16 : Int)) (IntKind.i64.wrap ((16 : Int) - ((IntKind.i64.wrap ((IntKind.i64.wrap ((IntKind.i64.wrap x13) + (256 : Int))) - x19)).tmod (16 : Int)))) w1.drew  R)
theorem seg_RecvBuf_first.B0_eq (b : Option Addr) (n : Int) (w : World)   (R : Option Addr → Nat → Nat → World → Prop) (sB1 : Option Addr → Int → Option Addr → Nat → Nat → Int → Int → World → Prop) :
    (
  Make 5 (.int .u8 (0 : Int)) 1 1 n n w fun b9 w1 =>
  Pn b fun a =>
  LdI .u8 (a.add 16) w1.drew fun x13 =>
  Pn b fun a_1 =>
  LdI .i64 (a_1.add 17) w1.drew fun x19 =>
  (16 : Int) ≠ 0 ∧
  Bm (decide ((IntKind.i64.wrap ((16 : Int) - ((IntKind.i64.wrap ((IntKind.i64.wrap ((IntKind.i64.wrap x13) + (256 : Int))) - x19)).tmod (16 : Int)))) > n)) (
    sB1 b n (some ⟨b9, 0, none⟩) n.toNat n.toNat ((IntKind.i64.wrap ((IntKind.i64.wrap ((IntKind.i64.wrap x13) + (256 : Int))) - x19)).tmod (16 : Int)) n w1.drew) (
    sB1 b n (some ⟨b9, 0, none⟩) n.toNat n.toNat ((IntKind.i64.wrap ((IntKind.i64.wrap ((IntKind.i64.wrap x13) + (256 : Int))) - x19)).tmod (16 : Int)) (IntKind.i64.wrap ((16 : Int) - ((IntKind.i64.wrap ((IntKind.i64.wrap ((IntKind.i64.wrap x13) + (256 : Int))) - x19)).tmod (16 : Int)))) w1.drew)) = kstep Tryz.prog 50 Tryz.f209.results.toList (Tryz.f209.body.getD .skip) (seg_RecvBuf_first.RV R) (kvc Tryz.prog 50 Tryz.f209.results.toList (Tryz.f209.body.getD .skip) (seg_RecvBuf_first.RV R) [([(0, [1, 1, 1, 1, 1])], fun σ w => dP (slotOf σ 0) fun b_ => dI .i64 (slotOf σ 1) fun n_ => dL (slotOf σ 5) fun out_b_ out_l_ out_c_ => dI .i64 (slotOf σ 6) fun at0_ => dI .i64 (slotOf σ 7) fun run_ => sB1 b_ n_ out_b_ out_l_ out_c_ at0_ run_ w)] 2000) [(0, [])] [(0, .pointer b), (1, .int .i64 n)] w := by kernel_rfl
theorem seg_RecvBuf_first.B0_sound {R : Option Addr → Nat → Nat → World → Prop}  (b : Option Addr) (n : Int) (w : World) (h : seg_RecvBuf_first.B0 b n w   R) :
    KW Tryz.prog 209 50 (seg_RecvBuf_first.RV R) ([(0, [])].map (toItem (Tryz.f209.body.getD .skip))) [(0, .pointer b), (1, .int .i64 n)] w := by
  exact block_spec Tryz.func209 Tryz.mixed (stops_cons (fun σ w h => by
      obtain ⟨b_, e0, h⟩ := dP_elim h
      obtain ⟨n_, e1, h⟩ := dI_elim h
      obtain ⟨out_b_, out_l_, out_c_, e2, h⟩ := dL_elim h
      obtain ⟨at0_, e3, h⟩ := dI_elim h
      obtain ⟨run_, e4, h⟩ := dI_elim h
      exact (seg_RecvBuf_first.B1_sound  b_ n_ out_b_ out_l_ out_c_ at0_ run_ w h).weaken (Sub.cons (Sub.cons (Sub.cons (Sub.cons (Sub.cons (Sub.nil _) e4) e3) e2) e1) e0)) stops_nil) (Eq.mp (seg_RecvBuf_first.B0_eq b n w   R (fun b_ n_ out_b_ out_l_ out_c_ at0_ run_ w => seg_RecvBuf_first.B1 b_ n_ out_b_ out_l_ out_c_ at0_ run_ w  R)) h)
theorem seg_RecvBuf_first.sound (b : Option Addr) (n : Int) (w : World) (R : Option Addr → Nat → Nat → World → Prop) (h : seg_RecvBuf_first.B0 b n w R) : seg_RecvBuf_first.Call b n w R := by
  have hc := calls_of_block (args := #[.pointer b, .int .i64 n]) Tryz.func209 (body := (Tryz.f209.body.getD .skip)) (by kernel_rfl) (by kernel_rfl) (args_slot _) (seg_RecvBuf_first.B0_sound b n w h)
  exact hc.mono fun e w' he => by
    obtain ⟨v, rfl, hv⟩ := he
    exact seg_RecvBuf_first.RV_elim hv
end Go.Proofs.Qxb6500424aGreat
