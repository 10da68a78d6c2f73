import Derived.Test.Qxb6500422aGreatSig
set_option maxRecDepth 100000
set_option linter.unusedVariables false
open Go.Vc
namespace Go.Proofs.Qxb6500422aGreat
def connlaw_World_Seam.B0 (w0 : Option Addr) (c : Int) (w : World)   (R : Bool → World → Prop) : Prop :=
  Pn w0 fun a =>
  (0 ≤ c ∧ c < ((2 : Nat) : Int)) ∧
  LdP (Addr.add (a.add 2) (c.toNat * 1)) w fun x17 =>
  connm_Conn_Peek.Call x17 w fun r18_0_b r18_0_l r18_0_c r18_1_b r18_1_l r18_1_c r18_2_b r18_2_l r18_2_c w1 =>
  Pn w0 fun a_1 =>
  (0 ≤ c ∧ c < ((2 : Nat) : Int)) ∧
  LdP (Addr.add (a_1.add 4) (c.toNat * 2)) w1 fun x28 =>
  seg_SendBuf_Bytes.Call x28 w1 fun r29_b r29_l r29_c w2 =>
  api_SameBytes.Call r18_0_b r18_0_l r18_0_c r29_b r29_l r29_c w2 fun r32 w3 =>
  Bm (!r32) (
    R false w3) (
    Pn w0 fun a_2 =>
    (0 ≤ c ∧ c < ((2 : Nat) : Int)) ∧
    LdP ((Addr.add (a_2.add 4) (c.toNat * 2)).add 1) w3 fun x40 =>
    seg_RecvBuf_Bytes.Call x40 w3 fun r41_b r41_l r41_c w4 =>
    api_SameBytes.Call r18_1_b r18_1_l r18_1_c r41_b r41_l r41_c w4 fun r44 w5 =>
    Bm (!r44) (
      R false w5) (
      Pn w0 fun a_3 =>
      (0 ≤ c ∧ c < ((2 : Nat) : Int)) ∧
      LdP ((Addr.add (a_3.add 4) (c.toNat * 2)).add 1) w5 fun x52 =>
      seg_RecvBuf_Ahead.Call x52 w5 fun r53_b r53_l r53_c w6 =>
      connlaw_SameInts.Call r18_2_b r18_2_l r18_2_c r53_b r53_l r53_c w6 fun r56 w7 =>
      R r56 w7))
theorem connlaw_World_Seam.B0_eq (w0 : Option Addr) (c : Int) (w : World)   (R : Bool → World → Prop)  :
    (
  Pn w0 fun a =>
  (0 ≤ c ∧ c < ((2 : Nat) : Int)) ∧
  LdP (Addr.add (a.add 2) (c.toNat * 1)) w fun x17 =>
  connm_Conn_Peek.Call x17 w fun r18_0_b r18_0_l r18_0_c r18_1_b r18_1_l r18_1_c r18_2_b r18_2_l r18_2_c w1 =>
  Pn w0 fun a_1 =>
  (0 ≤ c ∧ c < ((2 : Nat) : Int)) ∧
  LdP (Addr.add (a_1.add 4) (c.toNat * 2)) w1 fun x28 =>
  seg_SendBuf_Bytes.Call x28 w1 fun r29_b r29_l r29_c w2 =>
  api_SameBytes.Call r18_0_b r18_0_l r18_0_c r29_b r29_l r29_c w2 fun r32 w3 =>
  Bm (!r32) (
    R false w3) (
    Pn w0 fun a_2 =>
    (0 ≤ c ∧ c < ((2 : Nat) : Int)) ∧
    LdP ((Addr.add (a_2.add 4) (c.toNat * 2)).add 1) w3 fun x40 =>
    seg_RecvBuf_Bytes.Call x40 w3 fun r41_b r41_l r41_c w4 =>
    api_SameBytes.Call r18_1_b r18_1_l r18_1_c r41_b r41_l r41_c w4 fun r44 w5 =>
    Bm (!r44) (
      R false w5) (
      Pn w0 fun a_3 =>
      (0 ≤ c ∧ c < ((2 : Nat) : Int)) ∧
      LdP ((Addr.add (a_3.add 4) (c.toNat * 2)).add 1) w5 fun x52 =>
      seg_RecvBuf_Ahead.Call x52 w5 fun r53_b r53_l r53_c w6 =>
      connlaw_SameInts.Call r18_2_b r18_2_l r18_2_c r53_b r53_l r53_c w6 fun r56 w7 =>
      R r56 w7))) = kstep Tryz.prog 57 Tryz.f19.results.toList (Tryz.f19.body.getD .skip) (connlaw_World_Seam.RV R) (kvc Tryz.prog 57 Tryz.f19.results.toList (Tryz.f19.body.getD .skip) (connlaw_World_Seam.RV R) [] 2000) [(0, [])] [(0, .pointer w0), (1, .int .i64 c)] w := by kernel_rfl
theorem connlaw_World_Seam.B0_sound {R : Bool → World → Prop}  (w0 : Option Addr) (c : Int) (w : World) (h : connlaw_World_Seam.B0 w0 c w   R) :
    KW Tryz.prog 19 57 (connlaw_World_Seam.RV R) ([(0, [])].map (toItem (Tryz.f19.body.getD .skip))) [(0, .pointer w0), (1, .int .i64 c)] w := by
  exact block_spec Tryz.func19 Tryz.mixed stops_nil (Eq.mp (connlaw_World_Seam.B0_eq w0 c w   R ) h)
theorem connlaw_World_Seam.sound (w0 : Option Addr) (c : Int) (w : World) (R : Bool → World → Prop) (h : connlaw_World_Seam.B0 w0 c w R) : connlaw_World_Seam.Call w0 c w R := by
  have hc := calls_of_block (args := #[.pointer w0, .int .i64 c]) Tryz.func19 (body := (Tryz.f19.body.getD .skip)) (by kernel_rfl) (by kernel_rfl) (args_slot _) (connlaw_World_Seam.B0_sound w0 c w h)
  exact hc.mono fun e w' he => by
    obtain ⟨v, rfl, hv⟩ := he
    exact connlaw_World_Seam.RV_elim hv
def connlaw_Stamp.B1 (j : Int) (w : World)   (R : Int → World → Prop) : Prop :=
  (256 : Int) ≠ 0 ∧
  R (IntKind.u8.wrap (BitVec.ofInt IntKind.u8.bits (IntKind.u8.wrap (j.tmod (256 : Int))) ^^^ BitVec.ofInt IntKind.u8.bits (165 : Int)).toNat) w
theorem connlaw_Stamp.B1_eq (j : Int) (w : World)   (R : Int → World → Prop)  :
    (
  (256 : Int) ≠ 0 ∧
  R (IntKind.u8.wrap (BitVec.ofInt IntKind.u8.bits (IntKind.u8.wrap (j.tmod (256 : Int))) ^^^ BitVec.ofInt IntKind.u8.bits (165 : Int)).toNat) w) = kstep Tryz.prog 23 Tryz.f20.results.toList (Tryz.f20.body.getD .skip) (connlaw_Stamp.RV R) (kvc Tryz.prog 23 Tryz.f20.results.toList (Tryz.f20.body.getD .skip) (connlaw_Stamp.RV R) [] 2000) [(0, [1, 1])] [(0, .int .i64 j)] w := by kernel_rfl
theorem connlaw_Stamp.B1_sound {R : Int → World → Prop}  (j : Int) (w : World) (h : connlaw_Stamp.B1 j w   R) :
    KW Tryz.prog 20 23 (connlaw_Stamp.RV R) ([(0, [1, 1])].map (toItem (Tryz.f20.body.getD .skip))) [(0, .int .i64 j)] w := by
  exact block_spec Tryz.func20 Tryz.mixed stops_nil (Eq.mp (connlaw_Stamp.B1_eq j w   R ) h)
def connlaw_Stamp.B0 (j i : Int) (w : World)   (R : Int → World → Prop) : Prop :=
  (4 : Int) ≠ 0 ∧
  Bm ((i.tmod (4 : Int)) == (1 : Int)) (
    (256 : Int) ≠ 0 ∧
    connlaw_Stamp.B1 (IntKind.i64.wrap (j.tdiv (256 : Int))) w  R) (
    Bm ((i.tmod (4 : Int)) == (2 : Int)) (
      (65536 : Int) ≠ 0 ∧
      connlaw_Stamp.B1 (IntKind.i64.wrap (j.tdiv (65536 : Int))) w  R) (
      Bm ((i.tmod (4 : Int)) == (3 : Int)) (
        (16777216 : Int) ≠ 0 ∧
        connlaw_Stamp.B1 (IntKind.i64.wrap (j.tdiv (16777216 : Int))) w  R) (
        connlaw_Stamp.B1 j w  R)))
theorem connlaw_Stamp.B0_eq (j i : Int) (w : World)   (R : Int → World → Prop) (sB1 : Int → World → Prop) :
    (
  (4 : Int) ≠ 0 ∧
  Bm ((i.tmod (4 : Int)) == (1 : Int)) (
    (256 : Int) ≠ 0 ∧
    sB1 (IntKind.i64.wrap (j.tdiv (256 : Int))) w) (
    Bm ((i.tmod (4 : Int)) == (2 : Int)) (
      (65536 : Int) ≠ 0 ∧
      sB1 (IntKind.i64.wrap (j.tdiv (65536 : Int))) w) (
      Bm ((i.tmod (4 : Int)) == (3 : Int)) (
        (16777216 : Int) ≠ 0 ∧
        sB1 (IntKind.i64.wrap (j.tdiv (16777216 : Int))) w) (
        sB1 j w)))) = kstep Tryz.prog 23 Tryz.f20.results.toList (Tryz.f20.body.getD .skip) (connlaw_Stamp.RV R) (kvc Tryz.prog 23 Tryz.f20.results.toList (Tryz.f20.body.getD .skip) (connlaw_Stamp.RV R) [([(0, [1, 1])], fun σ w => dI .i64 (slotOf σ 0) fun j_ => sB1 j_ w)] 2000) [(0, [])] [(0, .int .i64 j), (1, .int .i64 i)] w := by kernel_rfl
theorem connlaw_Stamp.B0_sound {R : Int → World → Prop}  (j i : Int) (w : World) (h : connlaw_Stamp.B0 j i w   R) :
    KW Tryz.prog 20 23 (connlaw_Stamp.RV R) ([(0, [])].map (toItem (Tryz.f20.body.getD .skip))) [(0, .int .i64 j), (1, .int .i64 i)] w := by
  exact block_spec Tryz.func20 Tryz.mixed (stops_cons (fun σ w h => by
      obtain ⟨j_, e0, h⟩ := dI_elim h
      exact (connlaw_Stamp.B1_sound  j_ w h).weaken (Sub.cons (Sub.nil _) e0)) stops_nil) (Eq.mp (connlaw_Stamp.B0_eq j i w   R (fun j_ w => connlaw_Stamp.B1 j_ w  R)) h)
theorem connlaw_Stamp.sound (j i : Int) (w : World) (R : Int → World → Prop) (h : connlaw_Stamp.B0 j i w R) : connlaw_Stamp.Call j i w R := by
  have hc := calls_of_block (args := #[.int .i64 j, .int .i64 i]) Tryz.func20 (body := (Tryz.f20.body.getD .skip)) (by kernel_rfl) (by kernel_rfl) (args_slot _) (connlaw_Stamp.B0_sound j i w h)
  exact hc.mono fun e w' he => by
    obtain ⟨v, rfl, hv⟩ := he
    exact connlaw_Stamp.RV_elim hv
def seg_NewSendBuf.B0  (w : World)   (R : Option Addr → World → Prop) : Prop :=
  New (.cells #[.int .u8 (0 : Int), .int .u8 (0 : Int), .int .u8 (0 : Int), .int .u8 (0 : Int), .int .u8 (0 : Int), .int .u8 (0 : Int), .int .u8 (0 : Int), .int .u8 (0 : Int), .int .u8 (0 : Int), .int .u8 (0 : Int), .int .u8 (0 : Int), .int .u8 (0 : Int), .int .u8 (0 : Int), .int .u8 (0 : Int), .int .u8 (0 : Int), .int .u8 (0 : Int), .int .i64 (0 : Int), .int .i64 (0 : Int), .int .i64 (0 : Int), .int .u8 (0 : Int)] 92) w fun b2 w1 =>
  R (some ⟨b2, 0, none⟩) w1
theorem seg_NewSendBuf.B0_eq  (w : World)   (R : Option Addr → World → Prop)  :
    (
  New (.cells #[.int .u8 (0 : Int), .int .u8 (0 : Int), .int .u8 (0 : Int), .int .u8 (0 : Int), .int .u8 (0 : Int), .int .u8 (0 : Int), .int .u8 (0 : Int), .int .u8 (0 : Int), .int .u8 (0 : Int), .int .u8 (0 : Int), .int .u8 (0 : Int), .int .u8 (0 : Int), .int .u8 (0 : Int), .int .u8 (0 : Int), .int .u8 (0 : Int), .int .u8 (0 : Int), .int .i64 (0 : Int), .int .i64 (0 : Int), .int .i64 (0 : Int), .int .u8 (0 : Int)] 92) w fun b2 w1 =>
  R (some ⟨b2, 0, none⟩) w1) = kstep Tryz.prog 3 Tryz.f21.results.toList (Tryz.f21.body.getD .skip) (seg_NewSendBuf.RV R) (kvc Tryz.prog 3 Tryz.f21.results.toList (Tryz.f21.body.getD .skip) (seg_NewSendBuf.RV R) [] 2000) [(0, [])] [] w := by kernel_rfl
theorem seg_NewSendBuf.B0_sound {R : Option Addr → World → Prop}   (w : World) (h : seg_NewSendBuf.B0  w   R) :
    KW Tryz.prog 21 3 (seg_NewSendBuf.RV R) ([(0, [])].map (toItem (Tryz.f21.body.getD .skip))) [] w := by
  exact block_spec Tryz.func21 Tryz.mixed stops_nil (Eq.mp (seg_NewSendBuf.B0_eq  w   R ) h)
theorem seg_NewSendBuf.sound  (w : World) (R : Option Addr → World → Prop) (h : seg_NewSendBuf.B0  w R) : seg_NewSendBuf.Call  w R := by
  have hc := calls_of_block (args := #[]) Tryz.func21 (body := (Tryz.f21.body.getD .skip)) (by kernel_rfl) (by kernel_rfl) (args_slot _) (seg_NewSendBuf.B0_sound  w h)
  exact hc.mono fun e w' he => by
    obtain ⟨v, rfl, hv⟩ := he
    exact seg_NewSendBuf.RV_elim hv
def seg_NewRecvBuf.B0  (w : World)   (R : Option Addr → World → Prop) : Prop :=
  New (.cells #[.int .u8 (0 : Int), .int .u8 (0 : Int), .int .u8 (0 : Int), .int .u8 (0 : Int), .int .u8 (0 : Int), .int .u8 (0 : Int), .int .u8 (0 : Int), .int .u8 (0 : Int), .int .u8 (0 : Int), .int .u8 (0 : Int), .int .u8 (0 : Int), .int .u8 (0 : Int), .int .u8 (0 : Int), .int .u8 (0 : Int), .int .u8 (0 : Int), .int .u8 (0 : Int), .int .u8 (0 : Int), .int .i64 (0 : Int), .int .u16 (0 : Int)] 95) w fun b2 w1 =>
  R (some ⟨b2, 0, none⟩) w1
theorem seg_NewRecvBuf.B0_eq  (w : World)   (R : Option Addr → World → Prop)  :
    (
  New (.cells #[.int .u8 (0 : Int), .int .u8 (0 : Int), .int .u8 (0 : Int), .int .u8 (0 : Int), .int .u8 (0 : Int), .int .u8 (0 : Int), .int .u8 (0 : Int), .int .u8 (0 : Int), .int .u8 (0 : Int), .int .u8 (0 : Int), .int .u8 (0 : Int), .int .u8 (0 : Int), .int .u8 (0 : Int), .int .u8 (0 : Int), .int .u8 (0 : Int), .int .u8 (0 : Int), .int .u8 (0 : Int), .int .i64 (0 : Int), .int .u16 (0 : Int)] 95) w fun b2 w1 =>
  R (some ⟨b2, 0, none⟩) w1) = kstep Tryz.prog 3 Tryz.f22.results.toList (Tryz.f22.body.getD .skip) (seg_NewRecvBuf.RV R) (kvc Tryz.prog 3 Tryz.f22.results.toList (Tryz.f22.body.getD .skip) (seg_NewRecvBuf.RV R) [] 2000) [(0, [])] [] w := by kernel_rfl
theorem seg_NewRecvBuf.B0_sound {R : Option Addr → World → Prop}   (w : World) (h : seg_NewRecvBuf.B0  w   R) :
    KW Tryz.prog 22 3 (seg_NewRecvBuf.RV R) ([(0, [])].map (toItem (Tryz.f22.body.getD .skip))) [] w := by
  exact block_spec Tryz.func22 Tryz.mixed stops_nil (Eq.mp (seg_NewRecvBuf.B0_eq  w   R ) h)
theorem seg_NewRecvBuf.sound  (w : World) (R : Option Addr → World → Prop) (h : seg_NewRecvBuf.B0  w R) : seg_NewRecvBuf.Call  w R := by
  have hc := calls_of_block (args := #[]) Tryz.func22 (body := (Tryz.f22.body.getD .skip)) (by kernel_rfl) (by kernel_rfl) (args_slot _) (seg_NewRecvBuf.B0_sound  w h)
  exact hc.mono fun e w' he => by
    obtain ⟨v, rfl, hv⟩ := he
    exact seg_NewRecvBuf.RV_elim hv
def conn_Conn_Info.B0 (c : Option Addr) (w : World)   (R : Option Addr → World → Prop) : Prop :=
  Pn c fun a =>
  LdI .i64 (a.add 2) w.drew fun x7 =>
  Pn c fun a_1 =>
  LdI .i64 (a_1.add 3) w.drew fun x11 =>
  Pn c fun a_2 =>
  LdB (a_2.add 4) w.drew fun x15 =>
  Pn c fun a_3 =>
  LdB (a_3.add 5) w.drew fun x19 =>
  Pn c fun a_4 =>
  LdB (a_4.add 6) w.drew fun x23 =>
  Pn c fun a_5 =>
  LdB (a_5.add 7) w.drew fun x27 =>
  Pn c fun a_6 =>
  LdI .i64 (a_6.add 9) w.drew fun x31 =>
  Pn c fun a_7 =>
  LdI .i64 (a_7.add 10) w.drew fun x35 =>
  Pn c fun a_8 =>
  LdI .i64 (a_8.add 11) w.drew fun x39 =>
  Pn c fun a_9 =>
  LdI .i64 (a_9.add 12) w.drew fun x43 =>
  Pn c fun a_10 =>
  LdI .i64 (a_10.add 13) w.drew fun x47 =>
  New (.cells #[.int .i64 x7, .int .i64 x11, .bool x15, .bool x19, .bool x23, .bool x27, .int .i64 (0 : Int), .int .i64 (0 : Int), .int .i64 (0 : Int), .int .i64 (0 : Int), .int .i64 (0 : Int), .int .i64 (0 : Int), .int .i64 (0 : Int), .int .i64 x31, .int .i64 x35, .int .i64 x39, .int .i64 x43, .int .i64 x47] 76) w.drew fun b49 w1 =>
  conn_Conn_sndUna.Call c w1 fun r52 w2 =>
  Sts [.int .i64 r52] ⟨b49, 6, none⟩ 0 w2 fun w3 =>
  conn_Conn_sndNxt.Call c w3 fun r57 w4 =>
  Sts [.int .i64 r57] ⟨b49, 7, none⟩ 0 w4 fun w5 =>
  conn_Conn_rcvNxt.Call c w5 fun r62 w6 =>
  Sts [.int .i64 r62] ⟨b49, 8, none⟩ 0 w6 fun w7 =>
  Pn c fun a_11 =>
  LdP a_11 w7 fun x69 =>
  seg_SendBuf_Len.Call x69 w7 fun r70 w8 =>
  Sts [.int .i64 r70] ⟨b49, 9, none⟩ 0 w8 fun w9 =>
  Pn c fun a_12 =>
  LdP a_12 w9 fun x77 =>
  seg_SendBuf_Unsent.Call x77 w9 fun r78 w10 =>
  Sts [.int .i64 r78] ⟨b49, 10, none⟩ 0 w10 fun w11 =>
  Pn c fun a_13 =>
  LdP (a_13.add 1) w11 fun x85 =>
  seg_RecvBuf_Avail.Call x85 w11 fun r86 w12 =>
  Sts [.int .i64 r86] ⟨b49, 11, none⟩ 0 w12 fun w13 =>
  Pn c fun a_14 =>
  LdP (a_14.add 1) w13 fun x93 =>
  seg_RecvBuf_Held.Call x93 w13 fun r94 w14 =>
  Sts [.int .i64 r94] ⟨b49, 12, none⟩ 0 w14 fun w15 =>
  R (some ⟨b49, 0, none⟩) w15
theorem conn_Conn_Info.B0_eq (c : Option Addr) (w : World)   (R : Option Addr → World → Prop)  :
    (
  Pn c fun a =>
  LdI .i64 (a.add 2) w.drew fun x7 =>
  Pn c fun a_1 =>
  LdI .i64 (a_1.add 3) w.drew fun x11 =>
  Pn c fun a_2 =>
  LdB (a_2.add 4) w.drew fun x15 =>
  Pn c fun a_3 =>
  LdB (a_3.add 5) w.drew fun x19 =>
  Pn c fun a_4 =>
  LdB (a_4.add 6) w.drew fun x23 =>
  Pn c fun a_5 =>
  LdB (a_5.add 7) w.drew fun x27 =>
  Pn c fun a_6 =>
  LdI .i64 (a_6.add 9) w.drew fun x31 =>
  Pn c fun a_7 =>
  LdI .i64 (a_7.add 10) w.drew fun x35 =>
  Pn c fun a_8 =>
  LdI .i64 (a_8.add 11) w.drew fun x39 =>
  Pn c fun a_9 =>
  LdI .i64 (a_9.add 12) w.drew fun x43 =>
  Pn c fun a_10 =>
  LdI .i64 (a_10.add 13) w.drew fun x47 =>
  New (.cells #[.int .i64 x7, .int .i64 x11, .bool x15, .bool x19, .bool x23, .bool x27, .int .i64 (0 : Int), .int .i64 (0 : Int), .int .i64 (0 : Int), .int .i64 (0 : Int), .int .i64 (0 : Int), .int .i64 (0 : Int), .int .i64 (0 : Int), .int .i64 x31, .int .i64 x35, .int .i64 x39, .int .i64 x43, .int .i64 x47] 76) w.drew fun b49 w1 =>
  conn_Conn_sndUna.Call c w1 fun r52 w2 =>
  Sts [.int .i64 r52] ⟨b49, 6, none⟩ 0 w2 fun w3 =>
  conn_Conn_sndNxt.Call c w3 fun r57 w4 =>
  Sts [.int .i64 r57] ⟨b49, 7, none⟩ 0 w4 fun w5 =>
  conn_Conn_rcvNxt.Call c w5 fun r62 w6 =>
  Sts [.int .i64 r62] ⟨b49, 8, none⟩ 0 w6 fun w7 =>
  Pn c fun a_11 =>
  LdP a_11 w7 fun x69 =>
  seg_SendBuf_Len.Call x69 w7 fun r70 w8 =>
  Sts [.int .i64 r70] ⟨b49, 9, none⟩ 0 w8 fun w9 =>
  Pn c fun a_12 =>
  LdP a_12 w9 fun x77 =>
  seg_SendBuf_Unsent.Call x77 w9 fun r78 w10 =>
  Sts [.int .i64 r78] ⟨b49, 10, none⟩ 0 w10 fun w11 =>
  Pn c fun a_13 =>
  LdP (a_13.add 1) w11 fun x85 =>
  seg_RecvBuf_Avail.Call x85 w11 fun r86 w12 =>
  Sts [.int .i64 r86] ⟨b49, 11, none⟩ 0 w12 fun w13 =>
  Pn c fun a_14 =>
  LdP (a_14.add 1) w13 fun x93 =>
  seg_RecvBuf_Held.Call x93 w13 fun r94 w14 =>
  Sts [.int .i64 r94] ⟨b49, 12, none⟩ 0 w14 fun w15 =>
  R (some ⟨b49, 0, none⟩) w15) = kstep Tryz.prog 98 Tryz.f23.results.toList (Tryz.f23.body.getD .skip) (conn_Conn_Info.RV R) (kvc Tryz.prog 98 Tryz.f23.results.toList (Tryz.f23.body.getD .skip) (conn_Conn_Info.RV R) [] 2000) [(0, [])] [(0, .pointer c)] w := by kernel_rfl
theorem conn_Conn_Info.B0_sound {R : Option Addr → World → Prop}  (c : Option Addr) (w : World) (h : conn_Conn_Info.B0 c w   R) :
    KW Tryz.prog 23 98 (conn_Conn_Info.RV R) ([(0, [])].map (toItem (Tryz.f23.body.getD .skip))) [(0, .pointer c)] w := by
  exact block_spec Tryz.func23 Tryz.mixed stops_nil (Eq.mp (conn_Conn_Info.B0_eq c w   R ) h)
theorem conn_Conn_Info.sound (c : Option Addr) (w : World) (R : Option Addr → World → Prop) (h : conn_Conn_Info.B0 c w R) : conn_Conn_Info.Call c w R := by
  have hc := calls_of_block (args := #[.pointer c]) Tryz.func23 (body := (Tryz.f23.body.getD .skip)) (by kernel_rfl) (by kernel_rfl) (args_slot _) (conn_Conn_Info.B0_sound c w h)
  exact hc.mono fun e w' he => by
    obtain ⟨v, rfl, hv⟩ := he
    exact conn_Conn_Info.RV_elim hv
def connm_Conn_Info.B1 (c : Option Addr) (held d : Int) (w : World) (N1 : Option Addr → Int → Int → World → Prop)  (R : Option Addr → World → Prop) : Prop :=
  N1 c held (IntKind.i64.wrap (d + (1 : Int))) w
theorem connm_Conn_Info.B1_eq (c : Option Addr) (held d : Int) (w : World) (N1 : Option Addr → Int → Int → World → Prop)  (R : Option Addr → World → Prop)  :
    (
  N1 c held (IntKind.i64.wrap (d + (1 : Int))) w) = kstep Tryz.prog 103 Tryz.f24.results.toList (Tryz.f24.body.getD .skip) (connm_Conn_Info.RV R) (kvc Tryz.prog 103 Tryz.f24.results.toList (Tryz.f24.body.getD .skip) (connm_Conn_Info.RV R) [([(0, [1, 1, 0, 1, 0, 0]), (2, [1, 1, 0, 1, 0, 0]), (1, [0]), (0, [1, 1, 1])], fun σ w => dP (slotOf σ 0) fun c_ => dI .i64 (slotOf σ 3) fun held_ => dI .i64 (slotOf σ 4) fun d_ => N1 c_ held_ d_ w)] 2000) [(0, [1, 1, 0, 1, 0, 0, 1, 1]), (2, [1, 1, 0, 1, 0, 0]), (1, [0]), (0, [1, 1, 1])] [(0, .pointer c), (3, .int .i64 held), (4, .int .i64 d)] w := by kernel_rfl
theorem connm_Conn_Info.B1_sound {R : Option Addr → World → Prop} {N1 : Option Addr → Int → Int → World → Prop} (hN1 : ∀ c held d w, N1 c held d w → KW Tryz.prog 24 103 (connm_Conn_Info.RV R) ([(0, [1, 1, 0, 1, 0, 0]), (2, [1, 1, 0, 1, 0, 0]), (1, [0]), (0, [1, 1, 1])].map (toItem (Tryz.f24.body.getD .skip))) [(0, .pointer c), (3, .int .i64 held), (4, .int .i64 d)] w) (c : Option Addr) (held d : Int) (w : World) (h : connm_Conn_Info.B1 c held d w N1  R) :
    KW Tryz.prog 24 103 (connm_Conn_Info.RV R) ([(0, [1, 1, 0, 1, 0, 0, 1, 1]), (2, [1, 1, 0, 1, 0, 0]), (1, [0]), (0, [1, 1, 1])].map (toItem (Tryz.f24.body.getD .skip))) [(0, .pointer c), (3, .int .i64 held), (4, .int .i64 d)] w := by
  exact block_spec Tryz.func24 Tryz.mixed (stops_cons (fun σ w h => by
      obtain ⟨c_, e0, h⟩ := dP_elim h
      obtain ⟨held_, e1, h⟩ := dI_elim h
      obtain ⟨d_, e2, h⟩ := dI_elim h
      exact (hN1 c_ held_ d_ w h).weaken (Sub.cons (Sub.cons (Sub.cons (Sub.nil _) e2) e1) e0)) stops_nil) (Eq.mp (connm_Conn_Info.B1_eq c held d w N1  R ) h)
def connm_Conn_Info.L1b (c : Option Addr) (held d : Int) (w : World)  (N1 : Option Addr → Int → Int → World → Prop) (R : Option Addr → World → Prop) : Prop :=
  Bm (decide (d < (16 : Int))) (
    Pn c fun a =>
    (0 ≤ d ∧ d < ((16 : Nat) : Int)) ∧
    LdB (Addr.add (a.add 12) (d.toNat * 1)) w fun x16 =>
    Bm x16 (
      connm_Conn_Info.B1 c (IntKind.i64.wrap (held + (1 : Int))) d w N1 R) (
      connm_Conn_Info.B1 c held d w N1 R)) (
    connm_Conn_out.Call c w fun r20 w1 =>
    Pn c fun a_1 =>
    LdI .i64 (a_1.add 7) w1 fun x24 =>
    api_SeqAdd.Call x24 r20 w1 fun r26 w2 =>
    Pn c fun a_2 =>
    LdI .i64 a_2 w2.drew fun x30 =>
    Pn c fun a_3 =>
    LdI .i64 (a_3.add 1) w2.drew fun x34 =>
    Pn c fun a_4 =>
    LdB (a_4.add 2) w2.drew fun x38 =>
    Pn c fun a_5 =>
    LdB (a_5.add 3) w2.drew fun x42 =>
    Pn c fun a_6 =>
    LdB (a_6.add 4) w2.drew fun x46 =>
    Pn c fun a_7 =>
    LdB (a_7.add 5) w2.drew fun x50 =>
    Pn c fun a_8 =>
    LdI .i64 (a_8.add 7) w2.drew fun x54 =>
    Pn c fun a_9 =>
    LdI .i64 (a_9.add 10) w2.drew fun x59 =>
    Pn c fun a_10 =>
    LdL (a_10.add 8) w2.drew fun x63_b x63_l x63_c =>
    Pn c fun a_11 =>
    LdL (a_11.add 8) w2.drew fun x68_b x68_l x68_c =>
    Pn c fun a_12 =>
    LdI .i64 (a_12.add 9) w2.drew fun x73 =>
    Pn c fun a_13 =>
    LdL (a_13.add 11) w2.drew fun x78_b x78_l x78_c =>
    Pn c fun a_14 =>
    LdI .i64 (a_14.add 44) w2.drew fun x84 =>
    Pn c fun a_15 =>
    LdI .i64 (a_15.add 45) w2.drew fun x88 =>
    Pn c fun a_16 =>
    LdI .i64 (a_16.add 46) w2.drew fun x92 =>
    Pn c fun a_17 =>
    LdI .i64 (a_17.add 47) w2.drew fun x96 =>
    Pn c fun a_18 =>
    LdI .i64 (a_18.add 48) w2.drew fun x100 =>
    New (.cells #[.int .i64 x30, .int .i64 x34, .bool x38, .bool x42, .bool x46, .bool x50, .int .i64 x54, .int .i64 r26, .int .i64 x59, .int .i64 ((x63_l : Nat) : Int), .int .i64 (IntKind.i64.wrap (((x68_l : Nat) : Int) - x73)), .int .i64 ((x78_l : Nat) : Int), .int .i64 held, .int .i64 x84, .int .i64 x88, .int .i64 x92, .int .i64 x96, .int .i64 x100] 76) w2.drew fun b102 w3 =>
    R (some ⟨b102, 0, none⟩) w3)
theorem connm_Conn_Info.L1b_eq (c : Option Addr) (held d : Int) (w : World)  (N1 : Option Addr → Int → Int → World → Prop) (R : Option Addr → World → Prop) (sB1 : Option Addr → Int → Int → World → Prop) :
    (
  Bm (decide (d < (16 : Int))) (
    Pn c fun a =>
    (0 ≤ d ∧ d < ((16 : Nat) : Int)) ∧
    LdB (Addr.add (a.add 12) (d.toNat * 1)) w fun x16 =>
    Bm x16 (
      sB1 c (IntKind.i64.wrap (held + (1 : Int))) d w) (
      sB1 c held d w)) (
    connm_Conn_out.Call c w fun r20 w1 =>
    Pn c fun a_1 =>
    LdI .i64 (a_1.add 7) w1 fun x24 =>
    api_SeqAdd.Call x24 r20 w1 fun r26 w2 =>
    Pn c fun a_2 =>
    LdI .i64 a_2 w2.drew fun x30 =>
    Pn c fun a_3 =>
    LdI .i64 (a_3.add 1) w2.drew fun x34 =>
    Pn c fun a_4 =>
    LdB (a_4.add 2) w2.drew fun x38 =>
    Pn c fun a_5 =>
    LdB (a_5.add 3) w2.drew fun x42 =>
    Pn c fun a_6 =>
    LdB (a_6.add 4) w2.drew fun x46 =>
    Pn c fun a_7 =>
    LdB (a_7.add 5) w2.drew fun x50 =>
    Pn c fun a_8 =>
    LdI .i64 (a_8.add 7) w2.drew fun x54 =>
    Pn c fun a_9 =>
    LdI .i64 (a_9.add 10) w2.drew fun x59 =>
    Pn c fun a_10 =>
    LdL (a_10.add 8) w2.drew fun x63_b x63_l x63_c =>
    Pn c fun a_11 =>
    LdL (a_11.add 8) w2.drew fun x68_b x68_l x68_c =>
    Pn c fun a_12 =>
    LdI .i64 (a_12.add 9) w2.drew fun x73 =>
    Pn c fun a_13 =>
    LdL (a_13.add 11) w2.drew fun x78_b x78_l x78_c =>
    Pn c fun a_14 =>
    LdI .i64 (a_14.add 44) w2.drew fun x84 =>
    Pn c fun a_15 =>
    LdI .i64 (a_15.add 45) w2.drew fun x88 =>
    Pn c fun a_16 =>
    LdI .i64 (a_16.add 46) w2.drew fun x92 =>
    Pn c fun a_17 =>
    LdI .i64 (a_17.add 47) w2.drew fun x96 =>
    Pn c fun a_18 =>
    LdI .i64 (a_18.add 48) w2.drew fun x100 =>
    New (.cells #[.int .i64 x30, .int .i64 x34, .bool x38, .bool x42, .bool x46, .bool x50, .int .i64 x54, .int .i64 r26, .int .i64 x59, .int .i64 ((x63_l : Nat) : Int), .int .i64 (IntKind.i64.wrap (((x68_l : Nat) : Int) - x73)), .int .i64 ((x78_l : Nat) : Int), .int .i64 held, .int .i64 x84, .int .i64 x88, .int .i64 x92, .int .i64 x96, .int .i64 x100] 76) w2.drew fun b102 w3 =>
    R (some ⟨b102, 0, none⟩) w3)) = kstep Tryz.prog 103 Tryz.f24.results.toList (Tryz.f24.body.getD .skip) (connm_Conn_Info.RV R) (kvc Tryz.prog 103 Tryz.f24.results.toList (Tryz.f24.body.getD .skip) (connm_Conn_Info.RV R) [([(0, [1, 1, 0, 1, 0, 0, 1, 1]), (2, [1, 1, 0, 1, 0, 0]), (1, [0]), (0, [1, 1, 1])], fun σ w => dP (slotOf σ 0) fun c_ => dI .i64 (slotOf σ 3) fun held_ => dI .i64 (slotOf σ 4) fun d_ => sB1 c_ held_ d_ w)] 2000) [(0, [1, 1, 0, 1, 0, 0]), (2, [1, 1, 0, 1, 0, 0]), (1, [0]), (0, [1, 1, 1])] [(0, .pointer c), (3, .int .i64 held), (4, .int .i64 d)] w := by kernel_rfl
theorem connm_Conn_Info.L1b_sound {R : Option Addr → World → Prop} {N1 : Option Addr → Int → Int → World → Prop} (hN1 : ∀ c held d w, N1 c held d w → KW Tryz.prog 24 103 (connm_Conn_Info.RV R) ([(0, [1, 1, 0, 1, 0, 0]), (2, [1, 1, 0, 1, 0, 0]), (1, [0]), (0, [1, 1, 1])].map (toItem (Tryz.f24.body.getD .skip))) [(0, .pointer c), (3, .int .i64 held), (4, .int .i64 d)] w) (c : Option Addr) (held d : Int) (w : World) (h : connm_Conn_Info.L1b c held d w  N1 R) :
    KW Tryz.prog 24 103 (connm_Conn_Info.RV R) ([(0, [1, 1, 0, 1, 0, 0]), (2, [1, 1, 0, 1, 0, 0]), (1, [0]), (0, [1, 1, 1])].map (toItem (Tryz.f24.body.getD .skip))) [(0, .pointer c), (3, .int .i64 held), (4, .int .i64 d)] w := by
  exact block_spec Tryz.func24 Tryz.mixed (stops_cons (fun σ w h => by
      obtain ⟨c_, e0, h⟩ := dP_elim h
      obtain ⟨held_, e1, h⟩ := dI_elim h
      obtain ⟨d_, e2, h⟩ := dI_elim h
      exact (connm_Conn_Info.B1_sound hN1 c_ held_ d_ w h).weaken (Sub.cons (Sub.cons (Sub.cons (Sub.nil _) e2) e1) e0)) stops_nil) (Eq.mp (connm_Conn_Info.L1b_eq c held d w  N1 R (fun c_ held_ d_ w => connm_Conn_Info.B1 c_ held_ d_ w N1 R)) h)
def connm_Conn_Info.L1 (c : Option Addr) (held d : Int) (w : World)  (R : Option Addr → World → Prop) : Prop :=
  ∃ (I : Nat → Option Addr → Int → Int → World → Prop) (m : Nat), I m c held d w ∧ ∀ m c held d w, I m c held d w → connm_Conn_Info.L1b c held d w  (fun c' held' d' w' => ∃ m', m' < m ∧ I m' c' held' d' w') R
theorem connm_Conn_Info.L1_sound {R : Option Addr → World → Prop}  (c : Option Addr) (held d : Int) (w : World) (h : connm_Conn_Info.L1 c held d w  R) :
    KW Tryz.prog 24 103 (connm_Conn_Info.RV R) ([(0, [1, 1, 0, 1, 0, 0]), (2, [1, 1, 0, 1, 0, 0]), (1, [0]), (0, [1, 1, 1])].map (toItem (Tryz.f24.body.getD .skip))) [(0, .pointer c), (3, .int .i64 held), (4, .int .i64 d)] w := by
  obtain ⟨I, m, hBase, hr⟩ := h
  refine KW.loop (fun m σ w => ∃ (c : Option Addr) (held d : Int), σ = [(0, .pointer c), (3, .int .i64 held), (4, .int .i64 d)] ∧ I m c held d w) ?_ m _ w ⟨c, held, d, rfl, hBase⟩
  rintro m ih σ w ⟨c, held, d, rfl, hI⟩
  exact connm_Conn_Info.L1b_sound  (N1 := fun c' held' d' w' => ∃ m', m' < m ∧ I m' c' held' d' w') (fun c' held' d' w' hx => by obtain ⟨m', hlt, hI'⟩ := hx; exact ih m' hlt _ w' ⟨c', held', d', rfl, hI'⟩) c held d w (hr m c held d w hI)
def connm_Conn_Info.B0 (c : Option Addr) (w : World)   (R : Option Addr → World → Prop) : Prop :=
  connm_Conn_Info.L1 c (0 : Int) (0 : Int) w  R
theorem connm_Conn_Info.B0_eq (c : Option Addr) (w : World)   (R : Option Addr → World → Prop) (sL1 : Option Addr → Int → Int → World → Prop) :
    (
  sL1 c (0 : Int) (0 : Int) w) = kstep Tryz.prog 103 Tryz.f24.results.toList (Tryz.f24.body.getD .skip) (connm_Conn_Info.RV R) (kvc Tryz.prog 103 Tryz.f24.results.toList (Tryz.f24.body.getD .skip) (connm_Conn_Info.RV R) [([(0, [1, 1, 0, 1, 0, 0]), (2, [1, 1, 0, 1, 0, 0]), (1, [0]), (0, [1, 1, 1])], fun σ w => dP (slotOf σ 0) fun c_ => dI .i64 (slotOf σ 3) fun held_ => dI .i64 (slotOf σ 4) fun d_ => sL1 c_ held_ d_ w)] 2000) [(0, [])] [(0, .pointer c)] w := by kernel_rfl
theorem connm_Conn_Info.B0_sound {R : Option Addr → World → Prop}  (c : Option Addr) (w : World) (h : connm_Conn_Info.B0 c w   R) :
    KW Tryz.prog 24 103 (connm_Conn_Info.RV R) ([(0, [])].map (toItem (Tryz.f24.body.getD .skip))) [(0, .pointer c)] w := by
  exact block_spec Tryz.func24 Tryz.mixed (stops_cons (fun σ w h => by
      obtain ⟨c_, e0, h⟩ := dP_elim h
      obtain ⟨held_, e1, h⟩ := dI_elim h
      obtain ⟨d_, e2, h⟩ := dI_elim h
      exact (connm_Conn_Info.L1_sound  c_ held_ d_ w h).weaken (Sub.cons (Sub.cons (Sub.cons (Sub.nil _) e2) e1) e0)) stops_nil) (Eq.mp (connm_Conn_Info.B0_eq c w   R (fun c_ held_ d_ w => connm_Conn_Info.L1 c_ held_ d_ w  R)) h)
theorem connm_Conn_Info.sound (c : Option Addr) (w : World) (R : Option Addr → World → Prop) (h : connm_Conn_Info.B0 c w R) : connm_Conn_Info.Call c w R := by
  have hc := calls_of_block (args := #[.pointer c]) Tryz.func24 (body := (Tryz.f24.body.getD .skip)) (by kernel_rfl) (by kernel_rfl) (args_slot _) (connm_Conn_Info.B0_sound c w h)
  exact hc.mono fun e w' he => by
    obtain ⟨v, rfl, hv⟩ := he
    exact connm_Conn_Info.RV_elim hv
def connlaw_SameInfo.B3 (a b : Option Addr) (t152 : Bool) (w : World)   (R : Bool → World → Prop) : Prop :=
  Bm t152 (
    R false w) (
    Pn a fun a_1 =>
    LdI .i64 (a_1.add 14) w.drew fun x156 =>
    Pn b fun a_2 =>
    LdI .i64 (a_2.add 14) w.drew fun x160 =>
    Bm (x156 == x160) (
      Pn a fun a_3 =>
      LdI .i64 (a_3.add 15) w.drew fun x166 =>
      Pn b fun a_4 =>
      LdI .i64 (a_4.add 15) w.drew fun x170 =>
      Bm (x166 == x170) (
        Pn a fun a_5 =>
        LdI .i64 (a_5.add 16) w.drew fun x177 =>
        Pn b fun a_6 =>
        LdI .i64 (a_6.add 16) w.drew fun x181 =>
        Bm (x177 == x181) (
          Pn a fun a_7 =>
          LdI .i64 (a_7.add 17) w.drew fun x188 =>
          Pn b fun a_8 =>
          LdI .i64 (a_8.add 17) w.drew fun x192 =>
          R (x188 == x192) w.drew) (
          R false w.drew)) (
        R false w.drew)) (
      R false w.drew))
theorem connlaw_SameInfo.B3_eq (a b : Option Addr) (t152 : Bool) (w : World)   (R : Bool → World → Prop)  :
    (
  Bm t152 (
    R false w) (
    Pn a fun a_1 =>
    LdI .i64 (a_1.add 14) w.drew fun x156 =>
    Pn b fun a_2 =>
    LdI .i64 (a_2.add 14) w.drew fun x160 =>
    Bm (x156 == x160) (
      Pn a fun a_3 =>
      LdI .i64 (a_3.add 15) w.drew fun x166 =>
      Pn b fun a_4 =>
      LdI .i64 (a_4.add 15) w.drew fun x170 =>
      Bm (x166 == x170) (
        Pn a fun a_5 =>
        LdI .i64 (a_5.add 16) w.drew fun x177 =>
        Pn b fun a_6 =>
        LdI .i64 (a_6.add 16) w.drew fun x181 =>
        Bm (x177 == x181) (
          Pn a fun a_7 =>
          LdI .i64 (a_7.add 17) w.drew fun x188 =>
          Pn b fun a_8 =>
          LdI .i64 (a_8.add 17) w.drew fun x192 =>
          R (x188 == x192) w.drew) (
          R false w.drew)) (
        R false w.drew)) (
      R false w.drew))) = kstep Tryz.prog 195 Tryz.f25.results.toList (Tryz.f25.body.getD .skip) (connlaw_SameInfo.RV R) (kvc Tryz.prog 195 Tryz.f25.results.toList (Tryz.f25.body.getD .skip) (connlaw_SameInfo.RV R) [] 2000) [(0, [1, 1, 1, 0, 1]), (0, [1, 1, 1, 1])] [(0, .pointer a), (1, .pointer b), (152, .bool t152)] w := by kernel_rfl
theorem connlaw_SameInfo.B3_sound {R : Bool → World → Prop}  (a b : Option Addr) (t152 : Bool) (w : World) (h : connlaw_SameInfo.B3 a b t152 w   R) :
    KW Tryz.prog 25 195 (connlaw_SameInfo.RV R) ([(0, [1, 1, 1, 0, 1]), (0, [1, 1, 1, 1])].map (toItem (Tryz.f25.body.getD .skip))) [(0, .pointer a), (1, .pointer b), (152, .bool t152)] w := by
  exact block_spec Tryz.func25 Tryz.mixed stops_nil (Eq.mp (connlaw_SameInfo.B3_eq a b t152 w   R ) h)
def connlaw_SameInfo.B2 (a b : Option Addr) (t110 : Bool) (w : World)   (R : Bool → World → Prop) : Prop :=
  Bm t110 (
    R false w) (
    Pn a fun a_1 =>
    LdI .i64 (a_1.add 9) w.drew fun x114 =>
    Pn b fun a_2 =>
    LdI .i64 (a_2.add 9) w.drew fun x118 =>
    Bm (x114 != x118) (
      connlaw_SameInfo.B3 a b true w.drew  R) (
      Pn a fun a_3 =>
      LdI .i64 (a_3.add 10) w.drew fun x124 =>
      Pn b fun a_4 =>
      LdI .i64 (a_4.add 10) w.drew fun x128 =>
      Bm (x124 != x128) (
        connlaw_SameInfo.B3 a b true w.drew  R) (
        Pn a fun a_5 =>
        LdI .i64 (a_5.add 11) w.drew fun x135 =>
        Pn b fun a_6 =>
        LdI .i64 (a_6.add 11) w.drew fun x139 =>
        Bm (x135 != x139) (
          connlaw_SameInfo.B3 a b true w.drew  R) (
          Pn a fun a_7 =>
          LdI .i64 (a_7.add 12) w.drew fun x146 =>
          Pn b fun a_8 =>
          LdI .i64 (a_8.add 12) w.drew fun x150 =>
          connlaw_SameInfo.B3 a b (x146 != x150) w.drew  R))))
theorem connlaw_SameInfo.B2_eq (a b : Option Addr) (t110 : Bool) (w : World)   (R : Bool → World → Prop) (sB3 : Option Addr → Option Addr → Bool → World → Prop) :
    (
  Bm t110 (
    R false w) (
    Pn a fun a_1 =>
    LdI .i64 (a_1.add 9) w.drew fun x114 =>
    Pn b fun a_2 =>
    LdI .i64 (a_2.add 9) w.drew fun x118 =>
    Bm (x114 != x118) (
      sB3 a b true w.drew) (
      Pn a fun a_3 =>
      LdI .i64 (a_3.add 10) w.drew fun x124 =>
      Pn b fun a_4 =>
      LdI .i64 (a_4.add 10) w.drew fun x128 =>
      Bm (x124 != x128) (
        sB3 a b true w.drew) (
        Pn a fun a_5 =>
        LdI .i64 (a_5.add 11) w.drew fun x135 =>
        Pn b fun a_6 =>
        LdI .i64 (a_6.add 11) w.drew fun x139 =>
        Bm (x135 != x139) (
          sB3 a b true w.drew) (
          Pn a fun a_7 =>
          LdI .i64 (a_7.add 12) w.drew fun x146 =>
          Pn b fun a_8 =>
          LdI .i64 (a_8.add 12) w.drew fun x150 =>
          sB3 a b (x146 != x150) w.drew))))) = kstep Tryz.prog 195 Tryz.f25.results.toList (Tryz.f25.body.getD .skip) (connlaw_SameInfo.RV R) (kvc Tryz.prog 195 Tryz.f25.results.toList (Tryz.f25.body.getD .skip) (connlaw_SameInfo.RV R) [([(0, [1, 1, 1, 0, 1]), (0, [1, 1, 1, 1])], fun σ w => dP (slotOf σ 0) fun a_ => dP (slotOf σ 1) fun b_ => dB (slotOf σ 152) fun t152_ => sB3 a_ b_ t152_ w)] 2000) [(0, [1, 1, 0, 1]), (0, [1, 1, 1])] [(0, .pointer a), (1, .pointer b), (110, .bool t110)] w := by kernel_rfl
theorem connlaw_SameInfo.B2_sound {R : Bool → World → Prop}  (a b : Option Addr) (t110 : Bool) (w : World) (h : connlaw_SameInfo.B2 a b t110 w   R) :
    KW Tryz.prog 25 195 (connlaw_SameInfo.RV R) ([(0, [1, 1, 0, 1]), (0, [1, 1, 1])].map (toItem (Tryz.f25.body.getD .skip))) [(0, .pointer a), (1, .pointer b), (110, .bool t110)] w := by
  exact block_spec Tryz.func25 Tryz.mixed (stops_cons (fun σ w h => by
      obtain ⟨a_, e0, h⟩ := dP_elim h
      obtain ⟨b_, e1, h⟩ := dP_elim h
      obtain ⟨t152_, e2, h⟩ := dB_elim h
      exact (connlaw_SameInfo.B3_sound  a_ b_ t152_ w h).weaken (Sub.cons (Sub.cons (Sub.cons (Sub.nil _) e2) e1) e0)) stops_nil) (Eq.mp (connlaw_SameInfo.B2_eq a b t110 w   R (fun a_ b_ t152_ w => connlaw_SameInfo.B3 a_ b_ t152_ w  R)) h)
def connlaw_SameInfo.B1 (a b : Option Addr) (t68 : Bool) (w : World)   (R : Bool → World → Prop) : Prop :=
  Bm t68 (
    R false w) (
    Pn a fun a_1 =>
    LdI .i64 (a_1.add 6) w.drew fun x72 =>
    Pn b fun a_2 =>
    LdI .i64 (a_2.add 6) w.drew fun x76 =>
    Bm (x72 != x76) (
      connlaw_SameInfo.B2 a b true w.drew  R) (
      Pn a fun a_3 =>
      LdI .i64 (a_3.add 7) w.drew fun x82 =>
      Pn b fun a_4 =>
      LdI .i64 (a_4.add 7) w.drew fun x86 =>
      Bm (x82 != x86) (
        connlaw_SameInfo.B2 a b true w.drew  R) (
        Pn a fun a_5 =>
        LdI .i64 (a_5.add 8) w.drew fun x93 =>
        Pn b fun a_6 =>
        LdI .i64 (a_6.add 8) w.drew fun x97 =>
        Bm (x93 != x97) (
          connlaw_SameInfo.B2 a b true w.drew  R) (
          Pn a fun a_7 =>
          LdI .i64 (a_7.add 13) w.drew fun x104 =>
          Pn b fun a_8 =>
          LdI .i64 (a_8.add 13) w.drew fun x108 =>
          connlaw_SameInfo.B2 a b (x104 != x108) w.drew  R))))
theorem connlaw_SameInfo.B1_eq (a b : Option Addr) (t68 : Bool) (w : World)   (R : Bool → World → Prop) (sB2 : Option Addr → Option Addr → Bool → World → Prop) :
    (
  Bm t68 (
    R false w) (
    Pn a fun a_1 =>
    LdI .i64 (a_1.add 6) w.drew fun x72 =>
    Pn b fun a_2 =>
    LdI .i64 (a_2.add 6) w.drew fun x76 =>
    Bm (x72 != x76) (
      sB2 a b true w.drew) (
      Pn a fun a_3 =>
      LdI .i64 (a_3.add 7) w.drew fun x82 =>
      Pn b fun a_4 =>
      LdI .i64 (a_4.add 7) w.drew fun x86 =>
      Bm (x82 != x86) (
        sB2 a b true w.drew) (
        Pn a fun a_5 =>
        LdI .i64 (a_5.add 8) w.drew fun x93 =>
        Pn b fun a_6 =>
        LdI .i64 (a_6.add 8) w.drew fun x97 =>
        Bm (x93 != x97) (
          sB2 a b true w.drew) (
          Pn a fun a_7 =>
          LdI .i64 (a_7.add 13) w.drew fun x104 =>
          Pn b fun a_8 =>
          LdI .i64 (a_8.add 13) w.drew fun x108 =>
          sB2 a b (x104 != x108) w.drew))))) = kstep Tryz.prog 195 Tryz.f25.results.toList (Tryz.f25.body.getD .skip) (connlaw_SameInfo.RV R) (kvc Tryz.prog 195 Tryz.f25.results.toList (Tryz.f25.body.getD .skip) (connlaw_SameInfo.RV R) [([(0, [1, 1, 0, 1]), (0, [1, 1, 1])], fun σ w => dP (slotOf σ 0) fun a_ => dP (slotOf σ 1) fun b_ => dB (slotOf σ 110) fun t110_ => sB2 a_ b_ t110_ w)] 2000) [(0, [1, 0, 1]), (0, [1, 1])] [(0, .pointer a), (1, .pointer b), (68, .bool t68)] w := by kernel_rfl
theorem connlaw_SameInfo.B1_sound {R : Bool → World → Prop}  (a b : Option Addr) (t68 : Bool) (w : World) (h : connlaw_SameInfo.B1 a b t68 w   R) :
    KW Tryz.prog 25 195 (connlaw_SameInfo.RV R) ([(0, [1, 0, 1]), (0, [1, 1])].map (toItem (Tryz.f25.body.getD .skip))) [(0, .pointer a), (1, .pointer b), (68, .bool t68)] w := by
  exact block_spec Tryz.func25 Tryz.mixed (stops_cons (fun σ w h => by
      obtain ⟨a_, e0, h⟩ := dP_elim h
      obtain ⟨b_, e1, h⟩ := dP_elim h
      obtain ⟨t110_, e2, h⟩ := dB_elim h
      exact (connlaw_SameInfo.B2_sound  a_ b_ t110_ w h).weaken (Sub.cons (Sub.cons (Sub.cons (Sub.nil _) e2) e1) e0)) stops_nil) (Eq.mp (connlaw_SameInfo.B1_eq a b t68 w   R (fun a_ b_ t110_ w => connlaw_SameInfo.B2 a_ b_ t110_ w  R)) h)
def connlaw_SameInfo.B0 (a b : Option Addr) (w : World)   (R : Bool → World → Prop) : Prop :=
  Pn a fun a_1 =>
  LdI .i64 a_1 w.drew fun x8 =>
  Pn b fun a_2 =>
  LdI .i64 a_2 w.drew fun x12 =>
  Bm (x8 != x12) (
    connlaw_SameInfo.B1 a b true w.drew  R) (
    Pn a fun a_3 =>
    LdI .i64 (a_3.add 1) w.drew fun x18 =>
    Pn b fun a_4 =>
    LdI .i64 (a_4.add 1) w.drew fun x22 =>
    Bm (x18 != x22) (
      connlaw_SameInfo.B1 a b true w.drew  R) (
      Pn a fun a_5 =>
      LdB (a_5.add 2) w.drew fun x29 =>
      Pn b fun a_6 =>
      LdB (a_6.add 2) w.drew fun x33 =>
      Bm (!(x29 == x33)) (
        connlaw_SameInfo.B1 a b true w.drew  R) (
        Pn a fun a_7 =>
        LdB (a_7.add 3) w.drew fun x40 =>
        Pn b fun a_8 =>
        LdB (a_8.add 3) w.drew fun x44 =>
        Bm (!(x40 == x44)) (
          connlaw_SameInfo.B1 a b true w.drew  R) (
          Pn a fun a_9 =>
          LdB (a_9.add 4) w.drew fun x51 =>
          Pn b fun a_10 =>
          LdB (a_10.add 4) w.drew fun x55 =>
          Bm (!(x51 == x55)) (
            connlaw_SameInfo.B1 a b true w.drew  R) (
            Pn a fun a_11 =>
            LdB (a_11.add 5) w.drew fun x62 =>
            Pn b fun a_12 =>
            LdB (a_12.add 5) w.drew fun x66 =>
            connlaw_SameInfo.B1 a b (!(x62 == x66)) w.drew  R)))))
theorem connlaw_SameInfo.B0_eq (a b : Option Addr) (w : World)   (R : Bool → World → Prop) (sB1 : Option Addr → Option Addr → Bool → World → Prop) :
    (
  Pn a fun a_1 =>
  LdI .i64 a_1 w.drew fun x8 =>
  Pn b fun a_2 =>
  LdI .i64 a_2 w.drew fun x12 =>
  Bm (x8 != x12) (
    sB1 a b true w.drew) (
    Pn a fun a_3 =>
    LdI .i64 (a_3.add 1) w.drew fun x18 =>
    Pn b fun a_4 =>
    LdI .i64 (a_4.add 1) w.drew fun x22 =>
    Bm (x18 != x22) (
      sB1 a b true w.drew) (
      Pn a fun a_5 =>
      LdB (a_5.add 2) w.drew fun x29 =>
      Pn b fun a_6 =>
      LdB (a_6.add 2) w.drew fun x33 =>
      Bm (!(x29 == x33)) (
        sB1 a b true w.drew) (
        Pn a fun a_7 =>
        LdB (a_7.add 3) w.drew fun x40 =>
        Pn b fun a_8 =>
        LdB (a_8.add 3) w.drew fun x44 =>
        Bm (!(x40 == x44)) (
          sB1 a b true w.drew) (
          Pn a fun a_9 =>
          LdB (a_9.add 4) w.drew fun x51 =>
          Pn b fun a_10 =>
          LdB (a_10.add 4) w.drew fun x55 =>
          Bm (!(x51 == x55)) (
            sB1 a b true w.drew) (
            Pn a fun a_11 =>
            LdB (a_11.add 5) w.drew fun x62 =>
            Pn b fun a_12 =>
            LdB (a_12.add 5) w.drew fun x66 =>
            sB1 a b (!(x62 == x66)) w.drew)))))) = kstep Tryz.prog 195 Tryz.f25.results.toList (Tryz.f25.body.getD .skip) (connlaw_SameInfo.RV R) (kvc Tryz.prog 195 Tryz.f25.results.toList (Tryz.f25.body.getD .skip) (connlaw_SameInfo.RV R) [([(0, [1, 0, 1]), (0, [1, 1])], fun σ w => dP (slotOf σ 0) fun a_ => dP (slotOf σ 1) fun b_ => dB (slotOf σ 68) fun t68_ => sB1 a_ b_ t68_ w)] 2000) [(0, [])] [(0, .pointer a), (1, .pointer b)] w := by kernel_rfl
theorem connlaw_SameInfo.B0_sound {R : Bool → World → Prop}  (a b : Option Addr) (w : World) (h : connlaw_SameInfo.B0 a b w   R) :
    KW Tryz.prog 25 195 (connlaw_SameInfo.RV R) ([(0, [])].map (toItem (Tryz.f25.body.getD .skip))) [(0, .pointer a), (1, .pointer b)] w := by
  exact block_spec Tryz.func25 Tryz.mixed (stops_cons (fun σ w h => by
      obtain ⟨a_, e0, h⟩ := dP_elim h
      obtain ⟨b_, e1, h⟩ := dP_elim h
      obtain ⟨t68_, e2, h⟩ := dB_elim h
      exact (connlaw_SameInfo.B1_sound  a_ b_ t68_ w h).weaken (Sub.cons (Sub.cons (Sub.cons (Sub.nil _) e2) e1) e0)) stops_nil) (Eq.mp (connlaw_SameInfo.B0_eq a b w   R (fun a_ b_ t68_ w => connlaw_SameInfo.B1 a_ b_ t68_ w  R)) h)
theorem connlaw_SameInfo.sound (a b : Option Addr) (w : World) (R : Bool → World → Prop) (h : connlaw_SameInfo.B0 a b w R) : connlaw_SameInfo.Call a b w R := by
  have hc := calls_of_block (args := #[.pointer a, .pointer b]) Tryz.func25 (body := (Tryz.f25.body.getD .skip)) (by kernel_rfl) (by kernel_rfl) (args_slot _) (connlaw_SameInfo.B0_sound a b w h)
  exact hc.mono fun e w' he => by
    obtain ⟨v, rfl, hv⟩ := he
    exact connlaw_SameInfo.RV_elim hv
def conn_Conn_Peek.B0 (c : Option Addr) (w : World)   (R : Option Addr → Nat → Nat → Option Addr → Nat → Nat → Option Addr → Nat → Nat → World → Prop) : Prop :=
  Pn c fun a =>
  LdP a w fun x11 =>
  seg_SendBuf_Bytes.Call x11 w fun r12_b r12_l r12_c w1 =>
  Pn c fun a_1 =>
  LdP (a_1.add 1) w1 fun x16 =>
  seg_RecvBuf_Bytes.Call x16 w1 fun r17_b r17_l r17_c w2 =>
  Pn c fun a_2 =>
  LdP (a_2.add 1) w2 fun x21 =>
  seg_RecvBuf_Ahead.Call x21 w2 fun r22_b r22_l r22_c w3 =>
  R r12_b r12_l r12_c r17_b r17_l r17_c r22_b r22_l r22_c w3
theorem conn_Conn_Peek.B0_eq (c : Option Addr) (w : World)   (R : Option Addr → Nat → Nat → Option Addr → Nat → Nat → Option Addr → Nat → Nat → World → Prop)  :
    (
  Pn c fun a =>
  LdP a w fun x11 =>
  seg_SendBuf_Bytes.Call x11 w fun r12_b r12_l r12_c w1 =>
  Pn c fun a_1 =>
  LdP (a_1.add 1) w1 fun x16 =>
  seg_RecvBuf_Bytes.Call x16 w1 fun r17_b r17_l r17_c w2 =>
  Pn c fun a_2 =>
  LdP (a_2.add 1) w2 fun x21 =>
  seg_RecvBuf_Ahead.Call x21 w2 fun r22_b r22_l r22_c w3 =>
  R r12_b r12_l r12_c r17_b r17_l r17_c r22_b r22_l r22_c w3) = kstep Tryz.prog 26 Tryz.f26.results.toList (Tryz.f26.body.getD .skip) (conn_Conn_Peek.RV R) (kvc Tryz.prog 26 Tryz.f26.results.toList (Tryz.f26.body.getD .skip) (conn_Conn_Peek.RV R) [] 2000) [(0, [])] [(0, .pointer c)] w := by kernel_rfl
theorem conn_Conn_Peek.B0_sound {R : Option Addr → Nat → Nat → Option Addr → Nat → Nat → Option Addr → Nat → Nat → World → Prop}  (c : Option Addr) (w : World) (h : conn_Conn_Peek.B0 c w   R) :
    KW Tryz.prog 26 26 (conn_Conn_Peek.RV R) ([(0, [])].map (toItem (Tryz.f26.body.getD .skip))) [(0, .pointer c)] w := by
  exact block_spec Tryz.func26 Tryz.mixed stops_nil (Eq.mp (conn_Conn_Peek.B0_eq c w   R ) h)
theorem conn_Conn_Peek.sound (c : Option Addr) (w : World) (R : Option Addr → Nat → Nat → Option Addr → Nat → Nat → Option Addr → Nat → Nat → World → Prop) (h : conn_Conn_Peek.B0 c w R) : conn_Conn_Peek.Call c w R := by
  have hc := calls_of_block (args := #[.pointer c]) Tryz.func26 (body := (Tryz.f26.body.getD .skip)) (by kernel_rfl) (by kernel_rfl) (args_slot _) (conn_Conn_Peek.B0_sound c w h)
  exact hc.mono fun e w' he => by
    obtain ⟨v, rfl, hv⟩ := he
    exact conn_Conn_Peek.RV_elim hv
def connm_Conn_Peek.B1 (c ahead_b : Option Addr) (ahead_l ahead_c : Nat) (d : Int) (w : World) (N1 : Option Addr → Option Addr → Nat → Nat → Int → World → Prop)  (R : Option Addr → Nat → Nat → Option Addr → Nat → Nat → Option Addr → Nat → Nat → World → Prop) : Prop :=
  N1 c ahead_b ahead_l ahead_c (IntKind.i64.wrap (d + (1 : Int))) w
theorem connm_Conn_Peek.B1_eq (c ahead_b : Option Addr) (ahead_l ahead_c : Nat) (d : Int) (w : World) (N1 : Option Addr → Option Addr → Nat → Nat → Int → World → Prop)  (R : Option Addr → Nat → Nat → Option Addr → Nat → Nat → Option Addr → Nat → Nat → World → Prop)  :
    (
  N1 c ahead_b ahead_l ahead_c (IntKind.i64.wrap (d + (1 : Int))) w) = kstep Tryz.prog 46 Tryz.f27.results.toList (Tryz.f27.body.getD .skip) (connm_Conn_Peek.RV R) (kvc Tryz.prog 46 Tryz.f27.results.toList (Tryz.f27.body.getD .skip) (connm_Conn_Peek.RV R) [([(0, [1, 1, 0, 1, 0, 0]), (2, [1, 1, 0, 1, 0, 0]), (1, [0]), (0, [1, 1, 1])], fun σ w => dP (slotOf σ 0) fun c_ => dL (slotOf σ 5) fun ahead_b_ ahead_l_ ahead_c_ => dI .i64 (slotOf σ 6) fun d_ => N1 c_ ahead_b_ ahead_l_ ahead_c_ d_ w)] 2000) [(0, [1, 1, 0, 1, 0, 0, 1, 1]), (2, [1, 1, 0, 1, 0, 0]), (1, [0]), (0, [1, 1, 1])] [(0, .pointer c), (5, .slice ahead_b ahead_l ahead_c), (6, .int .i64 d)] w := by kernel_rfl
theorem connm_Conn_Peek.B1_sound {R : Option Addr → Nat → Nat → Option Addr → Nat → Nat → Option Addr → Nat → Nat → World → Prop} {N1 : Option Addr → Option Addr → Nat → Nat → Int → World → Prop} (hN1 : ∀ c ahead_b ahead_l ahead_c d w, N1 c ahead_b ahead_l ahead_c d w → KW Tryz.prog 27 46 (connm_Conn_Peek.RV R) ([(0, [1, 1, 0, 1, 0, 0]), (2, [1, 1, 0, 1, 0, 0]), (1, [0]), (0, [1, 1, 1])].map (toItem (Tryz.f27.body.getD .skip))) [(0, .pointer c), (5, .slice ahead_b ahead_l ahead_c), (6, .int .i64 d)] w) (c ahead_b : Option Addr) (ahead_l ahead_c : Nat) (d : Int) (w : World) (h : connm_Conn_Peek.B1 c ahead_b ahead_l ahead_c d w N1  R) :
    KW Tryz.prog 27 46 (connm_Conn_Peek.RV R) ([(0, [1, 1, 0, 1, 0, 0, 1, 1]), (2, [1, 1, 0, 1, 0, 0]), (1, [0]), (0, [1, 1, 1])].map (toItem (Tryz.f27.body.getD .skip))) [(0, .pointer c), (5, .slice ahead_b ahead_l ahead_c), (6, .int .i64 d)] w := by
  exact block_spec Tryz.func27 Tryz.mixed (stops_cons (fun σ w h => by
      obtain ⟨c_, e0, h⟩ := dP_elim h
      obtain ⟨ahead_b_, ahead_l_, ahead_c_, e1, h⟩ := dL_elim h
      obtain ⟨d_, e2, h⟩ := dI_elim h
      exact (hN1 c_ ahead_b_ ahead_l_ ahead_c_ d_ w h).weaken (Sub.cons (Sub.cons (Sub.cons (Sub.nil _) e2) e1) e0)) stops_nil) (Eq.mp (connm_Conn_Peek.B1_eq c ahead_b ahead_l ahead_c d w N1  R ) h)
def connm_Conn_Peek.L1b (c ahead_b : Option Addr) (ahead_l ahead_c : Nat) (d : Int) (w : World)  (N1 : Option Addr → Option Addr → Nat → Nat → Int → World → Prop) (R : Option Addr → Nat → Nat → Option Addr → Nat → Nat → Option Addr → Nat → Nat → World → Prop) : Prop :=
  Bm (decide (d < (16 : Int))) (
    Pn ahead_b fun a =>
    (0 ≤ d ∧ d < ((ahead_l : Nat) : Int)) ∧
    Sts [.int .i64 (-1 : Int)] (Addr.add a (d.toNat * 1)) 0 w fun w1 =>
    Pn c fun a_1 =>
    (0 ≤ d ∧ d < ((16 : Nat) : Int)) ∧
    LdB (Addr.add (a_1.add 12) (d.toNat * 1)) w1 fun x22 =>
    Bm x22 (
      Pn c fun a_2 =>
      (0 ≤ d ∧ d < ((16 : Nat) : Int)) ∧
      LdI .u8 (Addr.add (a_2.add 28) (d.toNat * 1)) w1 fun x30 =>
      Pn ahead_b fun a_3 =>
      (0 ≤ d ∧ d < ((ahead_l : Nat) : Int)) ∧
      Sts [.int .i64 (IntKind.i64.wrap x30)] (Addr.add a_3 (d.toNat * 1)) 0 w1 fun w2 =>
      connm_Conn_Peek.B1 c ahead_b ahead_l ahead_c d w2 N1 R) (
      connm_Conn_Peek.B1 c ahead_b ahead_l ahead_c d w1 N1 R)) (
    Pn c fun a_4 =>
    LdL (a_4.add 8) w fun x36_b x36_l x36_c =>
    api_CopyBytes.Call x36_b x36_l x36_c w fun r37_b r37_l r37_c w3 =>
    Pn c fun a_5 =>
    LdL (a_5.add 11) w3 fun x41_b x41_l x41_c =>
    api_CopyBytes.Call x41_b x41_l x41_c w3 fun r42_b r42_l r42_c w4 =>
    R r37_b r37_l r37_c r42_b r42_l r42_c ahead_b ahead_l ahead_c w4)
theorem connm_Conn_Peek.L1b_eq (c ahead_b : Option Addr) (ahead_l ahead_c : Nat) (d : Int) (w : World)  (N1 : Option Addr → Option Addr → Nat → Nat → Int → World → Prop) (R : Option Addr → Nat → Nat → Option Addr → Nat → Nat → Option Addr → Nat → Nat → World → Prop) (sB1 : Option Addr → Option Addr → Nat → Nat → Int → World → Prop) :
    (
  Bm (decide (d < (16 : Int))) (
    Pn ahead_b fun a =>
    (0 ≤ d ∧ d < ((ahead_l : Nat) : Int)) ∧
    Sts [.int .i64 (-1 : Int)] (Addr.add a (d.toNat * 1)) 0 w fun w1 =>
    Pn c fun a_1 =>
    (0 ≤ d ∧ d < ((16 : Nat) : Int)) ∧
    LdB (Addr.add (a_1.add 12) (d.toNat * 1)) w1 fun x22 =>
    Bm x22 (
      Pn c fun a_2 =>
      (0 ≤ d ∧ d < ((16 : Nat) : Int)) ∧
      LdI .u8 (Addr.add (a_2.add 28) (d.toNat * 1)) w1 fun x30 =>
      Pn ahead_b fun a_3 =>
      (0 ≤ d ∧ d < ((ahead_l : Nat) : Int)) ∧
      Sts [.int .i64 (IntKind.i64.wrap x30)] (Addr.add a_3 (d.toNat * 1)) 0 w1 fun w2 =>
      sB1 c ahead_b ahead_l ahead_c d w2) (
      sB1 c ahead_b ahead_l ahead_c d w1)) (
    Pn c fun a_4 =>
    LdL (a_4.add 8) w fun x36_b x36_l x36_c =>
    api_CopyBytes.Call x36_b x36_l x36_c w fun r37_b r37_l r37_c w3 =>
    Pn c fun a_5 =>
    LdL (a_5.add 11) w3 fun x41_b x41_l x41_c =>
    api_CopyBytes.Call x41_b x41_l x41_c w3 fun r42_b r42_l r42_c w4 =>
    R r37_b r37_l r37_c r42_b r42_l r42_c ahead_b ahead_l ahead_c w4)) = kstep Tryz.prog 46 Tryz.f27.results.toList (Tryz.f27.body.getD .skip) (connm_Conn_Peek.RV R) (kvc Tryz.prog 46 Tryz.f27.results.toList (Tryz.f27.body.getD .skip) (connm_Conn_Peek.RV R) [([(0, [1, 1, 0, 1, 0, 0, 1, 1]), (2, [1, 1, 0, 1, 0, 0]), (1, [0]), (0, [1, 1, 1])], fun σ w => dP (slotOf σ 0) fun c_ => dL (slotOf σ 5) fun ahead_b_ ahead_l_ ahead_c_ => dI .i64 (slotOf σ 6) fun d_ => sB1 c_ ahead_b_ ahead_l_ ahead_c_ d_ w)] 2000) [(0, [1, 1, 0, 1, 0, 0]), (2, [1, 1, 0, 1, 0, 0]), (1, [0]), (0, [1, 1, 1])] [(0, .pointer c), (5, .slice ahead_b ahead_l ahead_c), (6, .int .i64 d)] w := by kernel_rfl
theorem connm_Conn_Peek.L1b_sound {R : Option Addr → Nat → Nat → Option Addr → Nat → Nat → Option Addr → Nat → Nat → World → Prop} {N1 : Option Addr → Option Addr → Nat → Nat → Int → World → Prop} (hN1 : ∀ c ahead_b ahead_l ahead_c d w, N1 c ahead_b ahead_l ahead_c d w → KW Tryz.prog 27 46 (connm_Conn_Peek.RV R) ([(0, [1, 1, 0, 1, 0, 0]), (2, [1, 1, 0, 1, 0, 0]), (1, [0]), (0, [1, 1, 1])].map (toItem (Tryz.f27.body.getD .skip))) [(0, .pointer c), (5, .slice ahead_b ahead_l ahead_c), (6, .int .i64 d)] w) (c ahead_b : Option Addr) (ahead_l ahead_c : Nat) (d : Int) (w : World) (h : connm_Conn_Peek.L1b c ahead_b ahead_l ahead_c d w  N1 R) :
    KW Tryz.prog 27 46 (connm_Conn_Peek.RV R) ([(0, [1, 1, 0, 1, 0, 0]), (2, [1, 1, 0, 1, 0, 0]), (1, [0]), (0, [1, 1, 1])].map (toItem (Tryz.f27.body.getD .skip))) [(0, .pointer c), (5, .slice ahead_b ahead_l ahead_c), (6, .int .i64 d)] w := by
  exact block_spec Tryz.func27 Tryz.mixed (stops_cons (fun σ w h => by
      obtain ⟨c_, e0, h⟩ := dP_elim h
      obtain ⟨ahead_b_, ahead_l_, ahead_c_, e1, h⟩ := dL_elim h
      obtain ⟨d_, e2, h⟩ := dI_elim h
      exact (connm_Conn_Peek.B1_sound hN1 c_ ahead_b_ ahead_l_ ahead_c_ d_ w h).weaken (Sub.cons (Sub.cons (Sub.cons (Sub.nil _) e2) e1) e0)) stops_nil) (Eq.mp (connm_Conn_Peek.L1b_eq c ahead_b ahead_l ahead_c d w  N1 R (fun c_ ahead_b_ ahead_l_ ahead_c_ d_ w => connm_Conn_Peek.B1 c_ ahead_b_ ahead_l_ ahead_c_ d_ w N1 R)) h)
def connm_Conn_Peek.L1 (c ahead_b : Option Addr) (ahead_l ahead_c : Nat) (d : Int) (w : World)  (R : Option Addr → Nat → Nat → Option Addr → Nat → Nat → Option Addr → Nat → Nat → World → Prop) : Prop :=
  ∃ (I : Nat → Option Addr → Option Addr → Nat → Nat → Int → World → Prop) (m : Nat), I m c ahead_b ahead_l ahead_c d w ∧ ∀ m c ahead_b ahead_l ahead_c d w, I m c ahead_b ahead_l ahead_c d w → connm_Conn_Peek.L1b c ahead_b ahead_l ahead_c d w  (fun c' ahead_b' ahead_l' ahead_c' d' w' => ∃ m', m' < m ∧ I m' c' ahead_b' ahead_l' ahead_c' d' w') R
theorem connm_Conn_Peek.L1_sound {R : Option Addr → Nat → Nat → Option Addr → Nat → Nat → Option Addr → Nat → Nat → World → Prop}  (c ahead_b : Option Addr) (ahead_l ahead_c : Nat) (d : Int) (w : World) (h : connm_Conn_Peek.L1 c ahead_b ahead_l ahead_c d w  R) :
    KW Tryz.prog 27 46 (connm_Conn_Peek.RV R) ([(0, [1, 1, 0, 1, 0, 0]), (2, [1, 1, 0, 1, 0, 0]), (1, [0]), (0, [1, 1, 1])].map (toItem (Tryz.f27.body.getD .skip))) [(0, .pointer c), (5, .slice ahead_b ahead_l ahead_c), (6, .int .i64 d)] w := by
  obtain ⟨I, m, hBase, hr⟩ := h
  refine KW.loop (fun m σ w => ∃ (c ahead_b : Option Addr) (ahead_l ahead_c : Nat) (d : Int), σ = [(0, .pointer c), (5, .slice ahead_b ahead_l ahead_c), (6, .int .i64 d)] ∧ I m c ahead_b ahead_l ahead_c d w) ?_ m _ w ⟨c, ahead_b, ahead_l, ahead_c, d, rfl, hBase⟩
  rintro m ih σ w ⟨c, ahead_b, ahead_l, ahead_c, d, rfl, hI⟩
  exact connm_Conn_Peek.L1b_sound  (N1 := fun c' ahead_b' ahead_l' ahead_c' d' w' => ∃ m', m' < m ∧ I m' c' ahead_b' ahead_l' ahead_c' d' w') (fun c' ahead_b' ahead_l' ahead_c' d' w' hx => by obtain ⟨m', hlt, hI'⟩ := hx; exact ih m' hlt _ w' ⟨c', ahead_b', ahead_l', ahead_c', d', rfl, hI'⟩) c ahead_b ahead_l ahead_c d w (hr m c ahead_b ahead_l ahead_c d w hI)
def connm_Conn_Peek.B0 (c : Option Addr) (w : World)   (R : Option Addr → Nat → Nat → Option Addr → Nat → Nat → Option Addr → Nat → Nat → World → Prop) : Prop :=
  Make 3 (.int .i64 (0 : Int)) 1 8 (16 : Int) (16 : Int) w fun b9 w1 =>
  connm_Conn_Peek.L1 c (some ⟨b9, 0, none⟩) 16 16 (0 : Int) w1  R
theorem connm_Conn_Peek.B0_eq (c : Option Addr) (w : World)   (R : Option Addr → Nat → Nat → Option Addr → Nat → Nat → Option Addr → Nat → Nat → World → Prop) (sL1 : Option Addr → Option Addr → Nat → Nat → Int → World → Prop) :
    (
  Make 3 (.int .i64 (0 : Int)) 1 8 (16 : Int) (16 : Int) w fun b9 w1 =>
  sL1 c (some ⟨b9, 0, none⟩) 16 16 (0 : Int) w1) = kstep Tryz.prog 46 Tryz.f27.results.toList (Tryz.f27.body.getD .skip) (connm_Conn_Peek.RV R) (kvc Tryz.prog 46 Tryz.f27.results.toList (Tryz.f27.body.getD .skip) (connm_Conn_Peek.RV R) [([(0, [1, 1, 0, 1, 0, 0]), (2, [1, 1, 0, 1, 0, 0]), (1, [0]), (0, [1, 1, 1])], fun σ w => dP (slotOf σ 0) fun c_ => dL (slotOf σ 5) fun ahead_b_ ahead_l_ ahead_c_ => dI .i64 (slotOf σ 6) fun d_ => sL1 c_ ahead_b_ ahead_l_ ahead_c_ d_ w)] 2000) [(0, [])] [(0, .pointer c)] w := by kernel_rfl
theorem connm_Conn_Peek.B0_sound {R : Option Addr → Nat → Nat → Option Addr → Nat → Nat → Option Addr → Nat → Nat → World → Prop}  (c : Option Addr) (w : World) (h : connm_Conn_Peek.B0 c w   R) :
    KW Tryz.prog 27 46 (connm_Conn_Peek.RV R) ([(0, [])].map (toItem (Tryz.f27.body.getD .skip))) [(0, .pointer c)] w := by
  exact block_spec Tryz.func27 Tryz.mixed (stops_cons (fun σ w h => by
      obtain ⟨c_, e0, h⟩ := dP_elim h
      obtain ⟨ahead_b_, ahead_l_, ahead_c_, e1, h⟩ := dL_elim h
      obtain ⟨d_, e2, h⟩ := dI_elim h
      exact (connm_Conn_Peek.L1_sound  c_ ahead_b_ ahead_l_ ahead_c_ d_ w h).weaken (Sub.cons (Sub.cons (Sub.cons (Sub.nil _) e2) e1) e0)) stops_nil) (Eq.mp (connm_Conn_Peek.B0_eq c w   R (fun c_ ahead_b_ ahead_l_ ahead_c_ d_ w => connm_Conn_Peek.L1 c_ ahead_b_ ahead_l_ ahead_c_ d_ w  R)) h)
theorem connm_Conn_Peek.sound (c : Option Addr) (w : World) (R : Option Addr → Nat → Nat → Option Addr → Nat → Nat → Option Addr → Nat → Nat → World → Prop) (h : connm_Conn_Peek.B0 c w R) : connm_Conn_Peek.Call c w R := by
  have hc := calls_of_block (args := #[.pointer c]) Tryz.func27 (body := (Tryz.f27.body.getD .skip)) (by kernel_rfl) (by kernel_rfl) (args_slot _) (connm_Conn_Peek.B0_sound c w h)
  exact hc.mono fun e w' he => by
    obtain ⟨v, rfl, hv⟩ := he
    exact connm_Conn_Peek.RV_elim hv
def api_SameBytes.L1b (a_b : Option Addr) (a_l a_c : Nat) (b_b : Option Addr) (b_l b_c : Nat) (i : Int) (w : World)  (N1 : Option Addr → Nat → Nat → Option Addr → Nat → Nat → Int → World → Prop) (R : Bool → World → Prop) : Prop :=
  Bm (decide (i < ((a_l : Nat) : Int))) (
    Pn a_b fun a =>
    (0 ≤ i ∧ i < ((a_l : Nat) : Int)) ∧
    LdI .u8 (Addr.add a (i.toNat * 1)) w.drew fun x20 =>
    Pn b_b fun a_1 =>
    (0 ≤ i ∧ i < ((b_l : Nat) : Int)) ∧
    LdI .u8 (Addr.add a_1 (i.toNat * 1)) w.drew fun x24 =>
    Bm (x20 != x24) (
      R false w.drew) (
      N1 a_b a_l a_c b_b b_l b_c (IntKind.i64.wrap (i + (1 : Int))) w.drew)) (
    R true w)
theorem api_SameBytes.L1b_eq (a_b : Option Addr) (a_l a_c : Nat) (b_b : Option Addr) (b_l b_c : Nat) (i : Int) (w : World)  (N1 : Option Addr → Nat → Nat → Option Addr → Nat → Nat → Int → World → Prop) (R : Bool → World → Prop)  :
    (
  Bm (decide (i < ((a_l : Nat) : Int))) (
    Pn a_b fun a =>
    (0 ≤ i ∧ i < ((a_l : Nat) : Int)) ∧
    LdI .u8 (Addr.add a (i.toNat * 1)) w.drew fun x20 =>
    Pn b_b fun a_1 =>
    (0 ≤ i ∧ i < ((b_l : Nat) : Int)) ∧
    LdI .u8 (Addr.add a_1 (i.toNat * 1)) w.drew fun x24 =>
    Bm (x20 != x24) (
      R false w.drew) (
      N1 a_b a_l a_c b_b b_l b_c (IntKind.i64.wrap (i + (1 : Int))) w.drew)) (
    R true w)) = kstep Tryz.prog 26 Tryz.f28.results.toList (Tryz.f28.body.getD .skip) (api_SameBytes.RV R) (kvc Tryz.prog 26 Tryz.f28.results.toList (Tryz.f28.body.getD .skip) (api_SameBytes.RV R) [([(0, [1, 1, 0, 1, 0, 0]), (2, [1, 1, 0, 1, 0, 0]), (1, [0]), (0, [1, 1, 1])], fun σ w => dL (slotOf σ 0) fun a_b_ a_l_ a_c_ => dL (slotOf σ 1) fun b_b_ b_l_ b_c_ => dI .i64 (slotOf σ 5) fun i_ => N1 a_b_ a_l_ a_c_ b_b_ b_l_ b_c_ i_ w)] 2000) [(0, [1, 1, 0, 1, 0, 0]), (2, [1, 1, 0, 1, 0, 0]), (1, [0]), (0, [1, 1, 1])] [(0, .slice a_b a_l a_c), (1, .slice b_b b_l b_c), (5, .int .i64 i)] w := by kernel_rfl
theorem api_SameBytes.L1b_sound {R : Bool → World → Prop} {N1 : Option Addr → Nat → Nat → Option Addr → Nat → Nat → Int → World → Prop} (hN1 : ∀ a_b a_l a_c b_b b_l b_c i w, N1 a_b a_l a_c b_b b_l b_c i w → KW Tryz.prog 28 26 (api_SameBytes.RV R) ([(0, [1, 1, 0, 1, 0, 0]), (2, [1, 1, 0, 1, 0, 0]), (1, [0]), (0, [1, 1, 1])].map (toItem (Tryz.f28.body.getD .skip))) [(0, .slice a_b a_l a_c), (1, .slice b_b b_l b_c), (5, .int .i64 i)] w) (a_b : Option Addr) (a_l a_c : Nat) (b_b : Option Addr) (b_l b_c : Nat) (i : Int) (w : World) (h : api_SameBytes.L1b a_b a_l a_c b_b b_l b_c i w  N1 R) :
    KW Tryz.prog 28 26 (api_SameBytes.RV R) ([(0, [1, 1, 0, 1, 0, 0]), (2, [1, 1, 0, 1, 0, 0]), (1, [0]), (0, [1, 1, 1])].map (toItem (Tryz.f28.body.getD .skip))) [(0, .slice a_b a_l a_c), (1, .slice b_b b_l b_c), (5, .int .i64 i)] w := by
  exact block_spec Tryz.func28 Tryz.mixed (stops_cons (fun σ w h => by
      obtain ⟨a_b_, a_l_, a_c_, e0, h⟩ := dL_elim h
      obtain ⟨b_b_, b_l_, b_c_, e1, h⟩ := dL_elim h
      obtain ⟨i_, e2, h⟩ := dI_elim h
      exact (hN1 a_b_ a_l_ a_c_ b_b_ b_l_ b_c_ i_ w h).weaken (Sub.cons (Sub.cons (Sub.cons (Sub.nil _) e2) e1) e0)) stops_nil) (Eq.mp (api_SameBytes.L1b_eq a_b a_l a_c b_b b_l b_c i w  N1 R ) h)
def api_SameBytes.L1 (a_b : Option Addr) (a_l a_c : Nat) (b_b : Option Addr) (b_l b_c : Nat) (i : Int) (w : World)  (R : Bool → World → Prop) : Prop :=
  ∃ (I : Nat → Option Addr → Nat → Nat → Option Addr → Nat → Nat → Int → World → Prop) (m : Nat), I m a_b a_l a_c b_b b_l b_c i w ∧ ∀ m a_b a_l a_c b_b b_l b_c i w, I m a_b a_l a_c b_b b_l b_c i w → api_SameBytes.L1b a_b a_l a_c b_b b_l b_c i w  (fun a_b' a_l' a_c' b_b' b_l' b_c' i' w' => ∃ m', m' < m ∧ I m' a_b' a_l' a_c' b_b' b_l' b_c' i' w') R
theorem api_SameBytes.L1_sound {R : Bool → World → Prop}  (a_b : Option Addr) (a_l a_c : Nat) (b_b : Option Addr) (b_l b_c : Nat) (i : Int) (w : World) (h : api_SameBytes.L1 a_b a_l a_c b_b b_l b_c i w  R) :
    KW Tryz.prog 28 26 (api_SameBytes.RV R) ([(0, [1, 1, 0, 1, 0, 0]), (2, [1, 1, 0, 1, 0, 0]), (1, [0]), (0, [1, 1, 1])].map (toItem (Tryz.f28.body.getD .skip))) [(0, .slice a_b a_l a_c), (1, .slice b_b b_l b_c), (5, .int .i64 i)] w := by
  obtain ⟨I, m, hBase, hr⟩ := h
  refine KW.loop (fun m σ w => ∃ (a_b : Option Addr) (a_l a_c : Nat) (b_b : Option Addr) (b_l b_c : Nat) (i : Int), σ = [(0, .slice a_b a_l a_c), (1, .slice b_b b_l b_c), (5, .int .i64 i)] ∧ I m a_b a_l a_c b_b b_l b_c i w) ?_ m _ w ⟨a_b, a_l, a_c, b_b, b_l, b_c, i, rfl, hBase⟩
  rintro m ih σ w ⟨a_b, a_l, a_c, b_b, b_l, b_c, i, rfl, hI⟩
  exact api_SameBytes.L1b_sound  (N1 := fun a_b' a_l' a_c' b_b' b_l' b_c' i' w' => ∃ m', m' < m ∧ I m' a_b' a_l' a_c' b_b' b_l' b_c' i' w') (fun a_b' a_l' a_c' b_b' b_l' b_c' i' w' hx => by obtain ⟨m', hlt, hI'⟩ := hx; exact ih m' hlt _ w' ⟨a_b', a_l', a_c', b_b', b_l', b_c', i', rfl, hI'⟩) a_b a_l a_c b_b b_l b_c i w (hr m a_b a_l a_c b_b b_l b_c i w hI)
def api_SameBytes.B0 (a_b : Option Addr) (a_l a_c : Nat) (b_b : Option Addr) (b_l b_c : Nat) (w : World)   (R : Bool → World → Prop) : Prop :=
  Bm (((a_l : Nat) : Int) != ((b_l : Nat) : Int)) (
    R false w) (
    api_SameBytes.L1 a_b a_l a_c b_b b_l b_c (0 : Int) w  R)
theorem api_SameBytes.B0_eq (a_b : Option Addr) (a_l a_c : Nat) (b_b : Option Addr) (b_l b_c : Nat) (w : World)   (R : Bool → World → Prop) (sL1 : Option Addr → Nat → Nat → Option Addr → Nat → Nat → Int → World → Prop) :
    (
  Bm (((a_l : Nat) : Int) != ((b_l : Nat) : Int)) (
    R false w) (
    sL1 a_b a_l a_c b_b b_l b_c (0 : Int) w)) = kstep Tryz.prog 26 Tryz.f28.results.toList (Tryz.f28.body.getD .skip) (api_SameBytes.RV R) (kvc Tryz.prog 26 Tryz.f28.results.toList (Tryz.f28.body.getD .skip) (api_SameBytes.RV R) [([(0, [1, 1, 0, 1, 0, 0]), (2, [1, 1, 0, 1, 0, 0]), (1, [0]), (0, [1, 1, 1])], fun σ w => dL (slotOf σ 0) fun a_b_ a_l_ a_c_ => dL (slotOf σ 1) fun b_b_ b_l_ b_c_ => dI .i64 (slotOf σ 5) fun i_ => sL1 a_b_ a_l_ a_c_ b_b_ b_l_ b_c_ i_ w)] 2000) [(0, [])] [(0, .slice a_b a_l a_c), (1, .slice b_b b_l b_c)] w := by kernel_rfl
theorem api_SameBytes.B0_sound {R : Bool → World → Prop}  (a_b : Option Addr) (a_l a_c : Nat) (b_b : Option Addr) (b_l b_c : Nat) (w : World) (h : api_SameBytes.B0 a_b a_l a_c b_b b_l b_c w   R) :
    KW Tryz.prog 28 26 (api_SameBytes.RV R) ([(0, [])].map (toItem (Tryz.f28.body.getD .skip))) [(0, .slice a_b a_l a_c), (1, .slice b_b b_l b_c)] w := by
  exact block_spec Tryz.func28 Tryz.mixed (stops_cons (fun σ w h => by
      obtain ⟨a_b_, a_l_, a_c_, e0, h⟩ := dL_elim h
      obtain ⟨b_b_, b_l_, b_c_, e1, h⟩ := dL_elim h
      obtain ⟨i_, e2, h⟩ := dI_elim h
      exact (api_SameBytes.L1_sound  a_b_ a_l_ a_c_ b_b_ b_l_ b_c_ i_ w h).weaken (Sub.cons (Sub.cons (Sub.cons (Sub.nil _) e2) e1) e0)) stops_nil) (Eq.mp (api_SameBytes.B0_eq a_b a_l a_c b_b b_l b_c w   R (fun a_b_ a_l_ a_c_ b_b_ b_l_ b_c_ i_ w => api_SameBytes.L1 a_b_ a_l_ a_c_ b_b_ b_l_ b_c_ i_ w  R)) h)
theorem api_SameBytes.sound (a_b : Option Addr) (a_l a_c : Nat) (b_b : Option Addr) (b_l b_c : Nat) (w : World) (R : Bool → World → Prop) (h : api_SameBytes.B0 a_b a_l a_c b_b b_l b_c w R) : api_SameBytes.Call a_b a_l a_c b_b b_l b_c w R := by
  have hc := calls_of_block (args := #[.slice a_b a_l a_c, .slice b_b b_l b_c]) Tryz.func28 (body := (Tryz.f28.body.getD .skip)) (by kernel_rfl) (by kernel_rfl) (args_slot _) (api_SameBytes.B0_sound a_b a_l a_c b_b b_l b_c w h)
  exact hc.mono fun e w' he => by
    obtain ⟨v, rfl, hv⟩ := he
    exact api_SameBytes.RV_elim hv
end Go.Proofs.Qxb6500422aGreat
