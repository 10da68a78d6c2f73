import Derived.Test.Qxb6500422aGreatSig
set_option maxRecDepth 100000
set_option linter.unusedVariables false
open Go.Vc
namespace Go.Proofs.Qxb6500422aGreat
def conn_Conn_Recv.B1 (c got_b : Option Addr) (got_l got_c : Nat) (out_b : Option Addr) (out_l out_c : Nat) (t53 : Bool) (w : World)   (R : Option Addr → Nat → Nat → Option Addr → Nat → Nat → Int → World → Prop) : Prop :=
  Bm t53 (
    conn_Conn_ack.Call c w fun r55_0 r55_1 r55_2 r55_3 r55_4 r55_5 r55_6_b r55_6_l r55_6_c w1 =>
    New (.cells #[.int .i64 (0 : Int), .int .i64 (0 : Int), .int .i64 (0 : Int), .int .i64 (0 : Int), .int .i64 (0 : Int), .int .i64 (0 : Int), .slice none 0 0] 45) w1 fun a_ w2 =>
    Sts [.int .i64 r55_0, .int .i64 r55_1, .int .i64 r55_2, .int .i64 r55_3, .int .i64 r55_4, .int .i64 r55_5, .slice r55_6_b r55_6_l r55_6_c] ⟨a_, 0, none⟩ 0 w2 fun w3 =>
    LdI .i64 ⟨a_, 0, none⟩ w3 fun x57_0 =>
    LdI .i64 ⟨a_, 1, none⟩ w3 fun x57_1 =>
    LdI .i64 ⟨a_, 2, none⟩ w3 fun x57_2 =>
    LdI .i64 ⟨a_, 3, none⟩ w3 fun x57_3 =>
    LdI .i64 ⟨a_, 4, none⟩ w3 fun x57_4 =>
    LdI .i64 ⟨a_, 5, none⟩ w3 fun x57_5 =>
    LdL ⟨a_, 6, none⟩ w3 fun x57_6_b x57_6_l x57_6_c =>
    New (.cells #[.int .i64 x57_0, .int .i64 x57_1, .int .i64 x57_2, .int .i64 x57_3, .int .i64 x57_4, .int .i64 x57_5, .slice x57_6_b x57_6_l x57_6_c] 45) w3 fun b58 w4 =>
    Append 45 (.agg #[.int .i64 (0 : Int), .int .i64 (0 : Int), .int .i64 (0 : Int), .int .i64 (0 : Int), .int .i64 (0 : Int), .int .i64 (0 : Int), .slice none 0 0]) 7 72 out_b out_l out_c (some ⟨b58, 0, none⟩) 1 w4 fun b59 c59 w5 =>
    R got_b got_l got_c b59 (out_l + 1) c59 (0 : Int) w5) (
    R got_b got_l got_c out_b out_l out_c (0 : Int) w)
theorem conn_Conn_Recv.B1_eq (c got_b : Option Addr) (got_l got_c : Nat) (out_b : Option Addr) (out_l out_c : Nat) (t53 : Bool) (w : World)   (R : Option Addr → Nat → Nat → Option Addr → Nat → Nat → Int → World → Prop)  :
    (
  Bm t53 (
    conn_Conn_ack.Call c w fun r55_0 r55_1 r55_2 r55_3 r55_4 r55_5 r55_6_b r55_6_l r55_6_c w1 =>
    New (.cells #[.int .i64 (0 : Int), .int .i64 (0 : Int), .int .i64 (0 : Int), .int .i64 (0 : Int), .int .i64 (0 : Int), .int .i64 (0 : Int), .slice none 0 0] 45) w1 fun a_ w2 =>
    Sts [.int .i64 r55_0, .int .i64 r55_1, .int .i64 r55_2, .int .i64 r55_3, .int .i64 r55_4, .int .i64 r55_5, .slice r55_6_b r55_6_l r55_6_c] ⟨a_, 0, none⟩ 0 w2 fun w3 =>
    LdI .i64 ⟨a_, 0, none⟩ w3 fun x57_0 =>
    LdI .i64 ⟨a_, 1, none⟩ w3 fun x57_1 =>
    LdI .i64 ⟨a_, 2, none⟩ w3 fun x57_2 =>
    LdI .i64 ⟨a_, 3, none⟩ w3 fun x57_3 =>
    LdI .i64 ⟨a_, 4, none⟩ w3 fun x57_4 =>
    LdI .i64 ⟨a_, 5, none⟩ w3 fun x57_5 =>
    LdL ⟨a_, 6, none⟩ w3 fun x57_6_b x57_6_l x57_6_c =>
    New (.cells #[.int .i64 x57_0, .int .i64 x57_1, .int .i64 x57_2, .int .i64 x57_3, .int .i64 x57_4, .int .i64 x57_5, .slice x57_6_b x57_6_l x57_6_c] 45) w3 fun b58 w4 =>
    Append 45 (.agg #[.int .i64 (0 : Int), .int .i64 (0 : Int), .int .i64 (0 : Int), .int .i64 (0 : Int), .int .i64 (0 : Int), .int .i64 (0 : Int), .slice none 0 0]) 7 72 out_b out_l out_c (some ⟨b58, 0, none⟩) 1 w4 fun b59 c59 w5 =>
    R got_b got_l got_c b59 (out_l + 1) c59 (0 : Int) w5) (
    R got_b got_l got_c out_b out_l out_c (0 : Int) w)) = kstep Tryz.prog 62 Tryz.f45.results.toList (Tryz.f45.body.getD .skip) (conn_Conn_Recv.RV R) (kvc Tryz.prog 62 Tryz.f45.results.toList (Tryz.f45.body.getD .skip) (conn_Conn_Recv.RV R) [] 2000) [(0, [1, 1, 1, 1, 1, 1, 1, 0, 1]), (0, [1, 1, 1, 1, 1, 1, 1, 1])] [(0, .pointer c), (8, .slice got_b got_l got_c), (9, .slice out_b out_l out_c), (53, .bool t53)] w := by kernel_rfl
theorem conn_Conn_Recv.B1_sound {R : Option Addr → Nat → Nat → Option Addr → Nat → Nat → Int → World → Prop}  (c got_b : Option Addr) (got_l got_c : Nat) (out_b : Option Addr) (out_l out_c : Nat) (t53 : Bool) (w : World) (h : conn_Conn_Recv.B1 c got_b got_l got_c out_b out_l out_c t53 w   R) :
    KW Tryz.prog 45 62 (conn_Conn_Recv.RV R) ([(0, [1, 1, 1, 1, 1, 1, 1, 0, 1]), (0, [1, 1, 1, 1, 1, 1, 1, 1])].map (toItem (Tryz.f45.body.getD .skip))) [(0, .pointer c), (8, .slice got_b got_l got_c), (9, .slice out_b out_l out_c), (53, .bool t53)] w := by
  exact block_spec Tryz.func45 Tryz.mixed stops_nil (Eq.mp (conn_Conn_Recv.B1_eq c got_b got_l got_c out_b out_l out_c t53 w   R ) h)
def conn_Conn_Recv.B0 (c : Option Addr) (max : Int) (w : World)   (R : Option Addr → Nat → Nat → Option Addr → Nat → Nat → Int → World → Prop) : Prop :=
  Pn c fun a =>
  LdI .i64 (a.add 2) w fun x14 =>
  Bm (x14 == (0 : Int)) (
    R none 0 0 none 0 0 (13 : Int) w) (
    Bm (decide (max ≤ (0 : Int))) (
      R none 0 0 none 0 0 (24 : Int) w) (
      Pn c fun a_1 =>
      LdP (a_1.add 1) w fun x21 =>
      seg_RecvBuf_Avail.Call x21 w fun r22 w1 =>
      Bm (r22 == (0 : Int)) (
        Pn c fun a_2 =>
        LdB (a_2.add 7) w1 fun x28 =>
        Bm x28 (
          R none 0 0 none 0 0 (16 : Int) w1) (
          Pn c fun a_3 =>
          LdI .i64 (a_3.add 2) w1 fun x32 =>
          Bm (x32 == (4 : Int)) (
            Pn c fun a_4 =>
            LdI .i64 (a_4.add 3) w1.drew fun x37 =>
            R none 0 0 none 0 0 x37 w1.drew) (
            R none 0 0 none 0 0 (14 : Int) w1))) (
        Pn c fun a_5 =>
        LdP (a_5.add 1) w1 fun x41 =>
        seg_RecvBuf_Read.Call x41 max w1 fun r43_b r43_l r43_c w2 =>
        New (.cells #[] 45) w2 fun b44 w3 =>
        Bm (r22 == (16 : Int)) (
          Pn c fun a_6 =>
          LdI .i64 (a_6.add 2) w3 fun x51 =>
          conn_Conn_Recv.B1 c r43_b r43_l r43_c (some ⟨b44, 0, none⟩) 0 0 (x51 == (3 : Int)) w3  R) (
          conn_Conn_Recv.B1 c r43_b r43_l r43_c (some ⟨b44, 0, none⟩) 0 0 false w3  R))))
theorem conn_Conn_Recv.B0_eq (c : Option Addr) (max : Int) (w : World)   (R : Option Addr → Nat → Nat → Option Addr → Nat → Nat → Int → World → Prop) (sB1 : Option Addr → Option Addr → Nat → Nat → Option Addr → Nat → Nat → Bool → World → Prop) :
    (
  Pn c fun a =>
  LdI .i64 (a.add 2) w fun x14 =>
  Bm (x14 == (0 : Int)) (
    R none 0 0 none 0 0 (13 : Int) w) (
    Bm (decide (max ≤ (0 : Int))) (
      R none 0 0 none 0 0 (24 : Int) w) (
      Pn c fun a_1 =>
      LdP (a_1.add 1) w fun x21 =>
      seg_RecvBuf_Avail.Call x21 w fun r22 w1 =>
      Bm (r22 == (0 : Int)) (
        Pn c fun a_2 =>
        LdB (a_2.add 7) w1 fun x28 =>
        Bm x28 (
          R none 0 0 none 0 0 (16 : Int) w1) (
          Pn c fun a_3 =>
          LdI .i64 (a_3.add 2) w1 fun x32 =>
          Bm (x32 == (4 : Int)) (
            Pn c fun a_4 =>
            LdI .i64 (a_4.add 3) w1.drew fun x37 =>
            R none 0 0 none 0 0 x37 w1.drew) (
            R none 0 0 none 0 0 (14 : Int) w1))) (
        Pn c fun a_5 =>
        LdP (a_5.add 1) w1 fun x41 =>
        seg_RecvBuf_Read.Call x41 max w1 fun r43_b r43_l r43_c w2 =>
        New (.cells #[] 45) w2 fun b44 w3 =>
        Bm (r22 == (16 : Int)) (
          Pn c fun a_6 =>
          LdI .i64 (a_6.add 2) w3 fun x51 =>
          sB1 c r43_b r43_l r43_c (some ⟨b44, 0, none⟩) 0 0 (x51 == (3 : Int)) w3) (
          sB1 c r43_b r43_l r43_c (some ⟨b44, 0, none⟩) 0 0 false w3))))) = kstep Tryz.prog 62 Tryz.f45.results.toList (Tryz.f45.body.getD .skip) (conn_Conn_Recv.RV R) (kvc Tryz.prog 62 Tryz.f45.results.toList (Tryz.f45.body.getD .skip) (conn_Conn_Recv.RV R) [([(0, [1, 1, 1, 1, 1, 1, 1, 0, 1]), (0, [1, 1, 1, 1, 1, 1, 1, 1])], fun σ w => dP (slotOf σ 0) fun c_ => dL (slotOf σ 8) fun got_b_ got_l_ got_c_ => dL (slotOf σ 9) fun out_b_ out_l_ out_c_ => dB (slotOf σ 53) fun t53_ => sB1 c_ got_b_ got_l_ got_c_ out_b_ out_l_ out_c_ t53_ w)] 2000) [(0, [])] [(0, .pointer c), (1, .int .i64 max)] w := by kernel_rfl
theorem conn_Conn_Recv.B0_sound {R : Option Addr → Nat → Nat → Option Addr → Nat → Nat → Int → World → Prop}  (c : Option Addr) (max : Int) (w : World) (h : conn_Conn_Recv.B0 c max w   R) :
    KW Tryz.prog 45 62 (conn_Conn_Recv.RV R) ([(0, [])].map (toItem (Tryz.f45.body.getD .skip))) [(0, .pointer c), (1, .int .i64 max)] w := by
  exact block_spec Tryz.func45 Tryz.mixed (stops_cons (fun σ w h => by
      obtain ⟨c_, e0, h⟩ := dP_elim h
      obtain ⟨got_b_, got_l_, got_c_, e1, h⟩ := dL_elim h
      obtain ⟨out_b_, out_l_, out_c_, e2, h⟩ := dL_elim h
      obtain ⟨t53_, e3, h⟩ := dB_elim h
      exact (conn_Conn_Recv.B1_sound  c_ got_b_ got_l_ got_c_ out_b_ out_l_ out_c_ t53_ w h).weaken (Sub.cons (Sub.cons (Sub.cons (Sub.cons (Sub.nil _) e3) e2) e1) e0)) stops_nil) (Eq.mp (conn_Conn_Recv.B0_eq c max w   R (fun c_ got_b_ got_l_ got_c_ out_b_ out_l_ out_c_ t53_ w => conn_Conn_Recv.B1 c_ got_b_ got_l_ got_c_ out_b_ out_l_ out_c_ t53_ w  R)) h)
theorem conn_Conn_Recv.sound (c : Option Addr) (max : Int) (w : World) (R : Option Addr → Nat → Nat → Option Addr → Nat → Nat → Int → World → Prop) (h : conn_Conn_Recv.B0 c max w R) : conn_Conn_Recv.Call c max w R := by
  have hc := calls_of_block (args := #[.pointer c, .int .i64 max]) Tryz.func45 (body := (Tryz.f45.body.getD .skip)) (by kernel_rfl) (by kernel_rfl) (args_slot _) (conn_Conn_Recv.B0_sound c max w h)
  exact hc.mono fun e w' he => by
    obtain ⟨v, rfl, hv⟩ := he
    exact conn_Conn_Recv.RV_elim hv
def connm_Conn_Recv.B2 (c got_b : Option Addr) (got_l got_c : Nat) (out_b : Option Addr) (out_l out_c : Nat) (t77 : Bool) (w : World)   (R : Option Addr → Nat → Nat → Option Addr → Nat → Nat → Int → World → Prop) : Prop :=
  Bm t77 (
    connm_Conn_ack.Call c w fun r80_0 r80_1 r80_2 r80_3 r80_4 r80_5 r80_6_b r80_6_l r80_6_c w1 =>
    New (.cells #[.int .i64 r80_0, .int .i64 r80_1, .int .i64 r80_2, .int .i64 r80_3, .int .i64 r80_4, .int .i64 r80_5, .slice r80_6_b r80_6_l r80_6_c] 45) w1 fun b81 w2 =>
    Append 45 (.agg #[.int .i64 (0 : Int), .int .i64 (0 : Int), .int .i64 (0 : Int), .int .i64 (0 : Int), .int .i64 (0 : Int), .int .i64 (0 : Int), .slice none 0 0]) 7 72 out_b out_l out_c (some ⟨b81, 0, none⟩) 1 w2 fun b82 c82 w3 =>
    R got_b got_l got_c b82 (out_l + 1) c82 (0 : Int) w3) (
    R got_b got_l got_c out_b out_l out_c (0 : Int) w)
theorem connm_Conn_Recv.B2_eq (c got_b : Option Addr) (got_l got_c : Nat) (out_b : Option Addr) (out_l out_c : Nat) (t77 : Bool) (w : World)   (R : Option Addr → Nat → Nat → Option Addr → Nat → Nat → Int → World → Prop)  :
    (
  Bm t77 (
    connm_Conn_ack.Call c w fun r80_0 r80_1 r80_2 r80_3 r80_4 r80_5 r80_6_b r80_6_l r80_6_c w1 =>
    New (.cells #[.int .i64 r80_0, .int .i64 r80_1, .int .i64 r80_2, .int .i64 r80_3, .int .i64 r80_4, .int .i64 r80_5, .slice r80_6_b r80_6_l r80_6_c] 45) w1 fun b81 w2 =>
    Append 45 (.agg #[.int .i64 (0 : Int), .int .i64 (0 : Int), .int .i64 (0 : Int), .int .i64 (0 : Int), .int .i64 (0 : Int), .int .i64 (0 : Int), .slice none 0 0]) 7 72 out_b out_l out_c (some ⟨b81, 0, none⟩) 1 w2 fun b82 c82 w3 =>
    R got_b got_l got_c b82 (out_l + 1) c82 (0 : Int) w3) (
    R got_b got_l got_c out_b out_l out_c (0 : Int) w)) = kstep Tryz.prog 85 Tryz.f46.results.toList (Tryz.f46.body.getD .skip) (connm_Conn_Recv.RV R) (kvc Tryz.prog 85 Tryz.f46.results.toList (Tryz.f46.body.getD .skip) (connm_Conn_Recv.RV R) [] 2000) [(0, [1, 1, 1, 1, 1, 1, 1, 1, 1, 1, 0, 1]), (0, [1, 1, 1, 1, 1, 1, 1, 1, 1, 1, 1])] [(0, .pointer c), (9, .slice got_b got_l got_c), (10, .slice out_b out_l out_c), (77, .bool t77)] w := by kernel_rfl
theorem connm_Conn_Recv.B2_sound {R : Option Addr → Nat → Nat → Option Addr → Nat → Nat → Int → World → Prop}  (c got_b : Option Addr) (got_l got_c : Nat) (out_b : Option Addr) (out_l out_c : Nat) (t77 : Bool) (w : World) (h : connm_Conn_Recv.B2 c got_b got_l got_c out_b out_l out_c t77 w   R) :
    KW Tryz.prog 46 85 (connm_Conn_Recv.RV R) ([(0, [1, 1, 1, 1, 1, 1, 1, 1, 1, 1, 0, 1]), (0, [1, 1, 1, 1, 1, 1, 1, 1, 1, 1, 1])].map (toItem (Tryz.f46.body.getD .skip))) [(0, .pointer c), (9, .slice got_b got_l got_c), (10, .slice out_b out_l out_c), (77, .bool t77)] w := by
  exact block_spec Tryz.func46 Tryz.mixed stops_nil (Eq.mp (connm_Conn_Recv.B2_eq c got_b got_l got_c out_b out_l out_c t77 w   R ) h)
def connm_Conn_Recv.B1 (c : Option Addr) (n : Int) (w : World)   (R : Option Addr → Nat → Nat → Option Addr → Nat → Nat → Int → World → Prop) : Prop :=
  Pn c fun a =>
  LdL (a.add 11) w fun x49_b x49_l x49_c =>
  Pn c fun a_1 =>
  LdL (a_1.add 11) w fun x55_b x55_l x55_c =>
  (0 ≤ n ∧ n ≤ ((x55_c : Nat) : Int)) ∧
  api_CopyBytes.Call (slBase x55_b ((0 : Nat) : Int) ((x55_c : Nat) : Int) 1) (n.toNat - ((0 : Nat) : Int).toNat) (((x55_c : Nat) : Int).toNat - ((0 : Nat) : Int).toNat) w fun r58_b r58_l r58_c w1 =>
  Pn c fun a_2 =>
  LdL (a_2.add 11) w1 fun x63_b x63_l x63_c =>
  (0 ≤ n ∧ n ≤ ((x63_l : Nat) : Int)) ∧
  api_CopyBytes.Call (slBase x63_b n ((x63_c : Nat) : Int) 1) (((x63_l : Nat) : Int).toNat - n.toNat) (((x63_c : Nat) : Int).toNat - n.toNat) w1 fun r66_b r66_l r66_c w2 =>
  Pn c fun a_3 =>
  Sts [.slice r66_b r66_l r66_c] (a_3.add 11) 0 w2 fun w3 =>
  New (.cells #[] 45) w3 fun b69 w4 =>
  Bm (((x49_l : Nat) : Int) == (16 : Int)) (
    Pn c fun a_4 =>
    LdI .i64 a_4 w4 fun x75 =>
    connm_Conn_Recv.B2 c r58_b r58_l r58_c (some ⟨b69, 0, none⟩) 0 0 (x75 == (3 : Int)) w4  R) (
    connm_Conn_Recv.B2 c r58_b r58_l r58_c (some ⟨b69, 0, none⟩) 0 0 false w4  R)
theorem connm_Conn_Recv.B1_eq (c : Option Addr) (n : Int) (w : World)   (R : Option Addr → Nat → Nat → Option Addr → Nat → Nat → Int → World → Prop) (sB2 : Option Addr → Option Addr → Nat → Nat → Option Addr → Nat → Nat → Bool → World → Prop) :
    (
  Pn c fun a =>
  LdL (a.add 11) w fun x49_b x49_l x49_c =>
  Pn c fun a_1 =>
  LdL (a_1.add 11) w fun x55_b x55_l x55_c =>
  (0 ≤ n ∧ n ≤ ((x55_c : Nat) : Int)) ∧
  api_CopyBytes.Call (slBase x55_b ((0 : Nat) : Int) ((x55_c : Nat) : Int) 1) (n.toNat - ((0 : Nat) : Int).toNat) (((x55_c : Nat) : Int).toNat - ((0 : Nat) : Int).toNat) w fun r58_b r58_l r58_c w1 =>
  Pn c fun a_2 =>
  LdL (a_2.add 11) w1 fun x63_b x63_l x63_c =>
  (0 ≤ n ∧ n ≤ ((x63_l : Nat) : Int)) ∧
  api_CopyBytes.Call (slBase x63_b n ((x63_c : Nat) : Int) 1) (((x63_l : Nat) : Int).toNat - n.toNat) (((x63_c : Nat) : Int).toNat - n.toNat) w1 fun r66_b r66_l r66_c w2 =>
  Pn c fun a_3 =>
  Sts [.slice r66_b r66_l r66_c] (a_3.add 11) 0 w2 fun w3 =>
  New (.cells #[] 45) w3 fun b69 w4 =>
  Bm (((x49_l : Nat) : Int) == (16 : Int)) (
    Pn c fun a_4 =>
    LdI .i64 a_4 w4 fun x75 =>
    sB2 c r58_b r58_l r58_c (some ⟨b69, 0, none⟩) 0 0 (x75 == (3 : Int)) w4) (
    sB2 c r58_b r58_l r58_c (some ⟨b69, 0, none⟩) 0 0 false w4)) = kstep Tryz.prog 85 Tryz.f46.results.toList (Tryz.f46.body.getD .skip) (connm_Conn_Recv.RV R) (kvc Tryz.prog 85 Tryz.f46.results.toList (Tryz.f46.body.getD .skip) (connm_Conn_Recv.RV R) [([(0, [1, 1, 1, 1, 1, 1, 1, 1, 1, 1, 0, 1]), (0, [1, 1, 1, 1, 1, 1, 1, 1, 1, 1, 1])], fun σ w => dP (slotOf σ 0) fun c_ => dL (slotOf σ 9) fun got_b_ got_l_ got_c_ => dL (slotOf σ 10) fun out_b_ out_l_ out_c_ => dB (slotOf σ 77) fun t77_ => sB2 c_ got_b_ got_l_ got_c_ out_b_ out_l_ out_c_ t77_ w)] 2000) [(0, [1, 1, 1, 1, 1, 1])] [(0, .pointer c), (7, .int .i64 n)] w := by kernel_rfl
theorem connm_Conn_Recv.B1_sound {R : Option Addr → Nat → Nat → Option Addr → Nat → Nat → Int → World → Prop}  (c : Option Addr) (n : Int) (w : World) (h : connm_Conn_Recv.B1 c n w   R) :
    KW Tryz.prog 46 85 (connm_Conn_Recv.RV R) ([(0, [1, 1, 1, 1, 1, 1])].map (toItem (Tryz.f46.body.getD .skip))) [(0, .pointer c), (7, .int .i64 n)] w := by
  exact block_spec Tryz.func46 Tryz.mixed (stops_cons (fun σ w h => by
      obtain ⟨c_, e0, h⟩ := dP_elim h
      obtain ⟨got_b_, got_l_, got_c_, e1, h⟩ := dL_elim h
      obtain ⟨out_b_, out_l_, out_c_, e2, h⟩ := dL_elim h
      obtain ⟨t77_, e3, h⟩ := dB_elim h
      exact (connm_Conn_Recv.B2_sound  c_ got_b_ got_l_ got_c_ out_b_ out_l_ out_c_ t77_ w h).weaken (Sub.cons (Sub.cons (Sub.cons (Sub.cons (Sub.nil _) e3) e2) e1) e0)) stops_nil) (Eq.mp (connm_Conn_Recv.B1_eq c n w   R (fun c_ got_b_ got_l_ got_c_ out_b_ out_l_ out_c_ t77_ w => connm_Conn_Recv.B2 c_ got_b_ got_l_ got_c_ out_b_ out_l_ out_c_ t77_ w  R)) h)
def connm_Conn_Recv.B0 (c : Option Addr) (max : Int) (w : World)   (R : Option Addr → Nat → Nat → Option Addr → Nat → Nat → Int → World → Prop) : Prop :=
  Pn c fun a =>
  LdI .i64 a w fun x14 =>
  Bm (x14 == (0 : Int)) (
    R none 0 0 none 0 0 (13 : Int) w) (
    Bm (decide (max ≤ (0 : Int))) (
      R none 0 0 none 0 0 (24 : Int) w) (
      Pn c fun a_1 =>
      LdL (a_1.add 11) w fun x21_b x21_l x21_c =>
      Bm (((x21_l : Nat) : Int) == (0 : Int)) (
        Pn c fun a_2 =>
        LdB (a_2.add 5) w fun x27 =>
        Bm x27 (
          R none 0 0 none 0 0 (16 : Int) w) (
          Pn c fun a_3 =>
          LdI .i64 a_3 w fun x31 =>
          Bm (x31 == (4 : Int)) (
            Pn c fun a_4 =>
            LdI .i64 (a_4.add 1) w.drew fun x36 =>
            R none 0 0 none 0 0 x36 w.drew) (
            R none 0 0 none 0 0 (14 : Int) w))) (
        Pn c fun a_5 =>
        LdL (a_5.add 11) w fun x40_b x40_l x40_c =>
        Bm (decide (((x40_l : Nat) : Int) > max)) (
          connm_Conn_Recv.B1 c max w  R) (
          connm_Conn_Recv.B1 c ((x40_l : Nat) : Int) w  R))))
theorem connm_Conn_Recv.B0_eq (c : Option Addr) (max : Int) (w : World)   (R : Option Addr → Nat → Nat → Option Addr → Nat → Nat → Int → World → Prop) (sB1 : Option Addr → Int → World → Prop) :
    (
  Pn c fun a =>
  LdI .i64 a w fun x14 =>
  Bm (x14 == (0 : Int)) (
    R none 0 0 none 0 0 (13 : Int) w) (
    Bm (decide (max ≤ (0 : Int))) (
      R none 0 0 none 0 0 (24 : Int) w) (
      Pn c fun a_1 =>
      LdL (a_1.add 11) w fun x21_b x21_l x21_c =>
      Bm (((x21_l : Nat) : Int) == (0 : Int)) (
        Pn c fun a_2 =>
        LdB (a_2.add 5) w fun x27 =>
        Bm x27 (
          R none 0 0 none 0 0 (16 : Int) w) (
          Pn c fun a_3 =>
          LdI .i64 a_3 w fun x31 =>
          Bm (x31 == (4 : Int)) (
            Pn c fun a_4 =>
            LdI .i64 (a_4.add 1) w.drew fun x36 =>
            R none 0 0 none 0 0 x36 w.drew) (
            R none 0 0 none 0 0 (14 : Int) w))) (
        Pn c fun a_5 =>
        LdL (a_5.add 11) w fun x40_b x40_l x40_c =>
        Bm (decide (((x40_l : Nat) : Int) > max)) (
          sB1 c max w) (
          sB1 c ((x40_l : Nat) : Int) w))))) = kstep Tryz.prog 85 Tryz.f46.results.toList (Tryz.f46.body.getD .skip) (connm_Conn_Recv.RV R) (kvc Tryz.prog 85 Tryz.f46.results.toList (Tryz.f46.body.getD .skip) (connm_Conn_Recv.RV R) [([(0, [1, 1, 1, 1, 1, 1])], fun σ w => dP (slotOf σ 0) fun c_ => dI .i64 (slotOf σ 7) fun n_ => sB1 c_ n_ w)] 2000) [(0, [])] [(0, .pointer c), (1, .int .i64 max)] w := by kernel_rfl
theorem connm_Conn_Recv.B0_sound {R : Option Addr → Nat → Nat → Option Addr → Nat → Nat → Int → World → Prop}  (c : Option Addr) (max : Int) (w : World) (h : connm_Conn_Recv.B0 c max w   R) :
    KW Tryz.prog 46 85 (connm_Conn_Recv.RV R) ([(0, [])].map (toItem (Tryz.f46.body.getD .skip))) [(0, .pointer c), (1, .int .i64 max)] w := by
  exact block_spec Tryz.func46 Tryz.mixed (stops_cons (fun σ w h => by
      obtain ⟨c_, e0, h⟩ := dP_elim h
      obtain ⟨n_, e1, h⟩ := dI_elim h
      exact (connm_Conn_Recv.B1_sound  c_ n_ w h).weaken (Sub.cons (Sub.cons (Sub.nil _) e1) e0)) stops_nil) (Eq.mp (connm_Conn_Recv.B0_eq c max w   R (fun c_ n_ w => connm_Conn_Recv.B1 c_ n_ w  R)) h)
theorem connm_Conn_Recv.sound (c : Option Addr) (max : Int) (w : World) (R : Option Addr → Nat → Nat → Option Addr → Nat → Nat → Int → World → Prop) (h : connm_Conn_Recv.B0 c max w R) : connm_Conn_Recv.Call c max w R := by
  have hc := calls_of_block (args := #[.pointer c, .int .i64 max]) Tryz.func46 (body := (Tryz.f46.body.getD .skip)) (by kernel_rfl) (by kernel_rfl) (args_slot _) (connm_Conn_Recv.B0_sound c max w h)
  exact hc.mono fun e w' he => by
    obtain ⟨v, rfl, hv⟩ := he
    exact connm_Conn_Recv.RV_elim hv
def conn_Conn_Abort.B1  (w : World)   (R : Option Addr → Nat → Nat → Int → World → Prop) : Prop :=
  New (.cells #[] 45) w fun b30 w1 =>
  R (some ⟨b30, 0, none⟩) 0 0 (0 : Int) w1
theorem conn_Conn_Abort.B1_eq  (w : World)   (R : Option Addr → Nat → Nat → Int → World → Prop)  :
    (
  New (.cells #[] 45) w fun b30 w1 =>
  R (some ⟨b30, 0, none⟩) 0 0 (0 : Int) w1) = kstep Tryz.prog 44 Tryz.f47.results.toList (Tryz.f47.body.getD .skip) (conn_Conn_Abort.RV R) (kvc Tryz.prog 44 Tryz.f47.results.toList (Tryz.f47.body.getD .skip) (conn_Conn_Abort.RV R) [] 2000) [(0, [1, 0, 1, 0, 1, 1, 1, 0, 1]), (1, [0]), (0, [1, 1])] [] w := by kernel_rfl
theorem conn_Conn_Abort.B1_sound {R : Option Addr → Nat → Nat → Int → World → Prop}   (w : World) (h : conn_Conn_Abort.B1  w   R) :
    KW Tryz.prog 47 44 (conn_Conn_Abort.RV R) ([(0, [1, 0, 1, 0, 1, 1, 1, 0, 1]), (1, [0]), (0, [1, 1])].map (toItem (Tryz.f47.body.getD .skip))) [] w := by
  exact block_spec Tryz.func47 Tryz.mixed stops_nil (Eq.mp (conn_Conn_Abort.B1_eq  w   R ) h)
def conn_Conn_Abort.B0 (c : Option Addr) (w : World)   (R : Option Addr → Nat → Nat → Int → World → Prop) : Prop :=
  Pn c fun a =>
  LdI .i64 (a.add 2) w fun x10 =>
  Bm (x10 == (0 : Int)) (
    R none 0 0 (13 : Int) w) (
    Bm (x10 == (4 : Int)) (
      Pn c fun a_1 =>
      LdI .i64 (a_1.add 3) w fun x18 =>
      Bm (x18 == (0 : Int)) (
        Pn c fun a_2 =>
        LdI .i64 (a_2.add 13) w fun x23 =>
        conn_Conn_fail.Call c (20 : Int) w fun w1 =>
        Pn c fun a_3 =>
        Sts [.int .i64 x23] (a_3.add 13) 0 w1 fun w2 =>
        conn_Conn_Abort.B1  w2  R) (
        conn_Conn_Abort.B1  w  R)) (
      Bm (x10 == (1 : Int)) (
        conn_Conn_fail.Call c (20 : Int) w fun w3 =>
        New (.cells #[] 45) w3 fun b35 w4 =>
        R (some ⟨b35, 0, none⟩) 0 0 (0 : Int) w4) (
        conn_Conn_sndNxt.Call c w fun r37 w5 =>
        conn_rst.Call r37 w5 fun r39_0 r39_1 r39_2 r39_3 r39_4 r39_5 r39_6_b r39_6_l r39_6_c w6 =>
        New (.cells #[.int .i64 (0 : Int), .int .i64 (0 : Int), .int .i64 (0 : Int), .int .i64 (0 : Int), .int .i64 (0 : Int), .int .i64 (0 : Int), .slice none 0 0] 45) w6 fun r_ w7 =>
        Sts [.int .i64 r39_0, .int .i64 r39_1, .int .i64 r39_2, .int .i64 r39_3, .int .i64 r39_4, .int .i64 r39_5, .slice r39_6_b r39_6_l r39_6_c] ⟨r_, 0, none⟩ 0 w7 fun w8 =>
        conn_Conn_fail.Call c (20 : Int) w8 fun w9 =>
        LdI .i64 ⟨r_, 0, none⟩ w9 fun x42_0 =>
        LdI .i64 ⟨r_, 1, none⟩ w9 fun x42_1 =>
        LdI .i64 ⟨r_, 2, none⟩ w9 fun x42_2 =>
        LdI .i64 ⟨r_, 3, none⟩ w9 fun x42_3 =>
        LdI .i64 ⟨r_, 4, none⟩ w9 fun x42_4 =>
        LdI .i64 ⟨r_, 5, none⟩ w9 fun x42_5 =>
        LdL ⟨r_, 6, none⟩ w9 fun x42_6_b x42_6_l x42_6_c =>
        conn_one.Call x42_0 x42_1 x42_2 x42_3 x42_4 x42_5 x42_6_b x42_6_l x42_6_c w9 fun r43_b r43_l r43_c w10 =>
        R r43_b r43_l r43_c (0 : Int) w10)))
theorem conn_Conn_Abort.B0_eq (c : Option Addr) (w : World)   (R : Option Addr → Nat → Nat → Int → World → Prop) (sB1 : World → Prop) :
    (
  Pn c fun a =>
  LdI .i64 (a.add 2) w fun x10 =>
  Bm (x10 == (0 : Int)) (
    R none 0 0 (13 : Int) w) (
    Bm (x10 == (4 : Int)) (
      Pn c fun a_1 =>
      LdI .i64 (a_1.add 3) w fun x18 =>
      Bm (x18 == (0 : Int)) (
        Pn c fun a_2 =>
        LdI .i64 (a_2.add 13) w fun x23 =>
        conn_Conn_fail.Call c (20 : Int) w fun w1 =>
        Pn c fun a_3 =>
        Sts [.int .i64 x23] (a_3.add 13) 0 w1 fun w2 =>
        sB1  w2) (
        sB1  w)) (
      Bm (x10 == (1 : Int)) (
        conn_Conn_fail.Call c (20 : Int) w fun w3 =>
        New (.cells #[] 45) w3 fun b35 w4 =>
        R (some ⟨b35, 0, none⟩) 0 0 (0 : Int) w4) (
        conn_Conn_sndNxt.Call c w fun r37 w5 =>
        conn_rst.Call r37 w5 fun r39_0 r39_1 r39_2 r39_3 r39_4 r39_5 r39_6_b r39_6_l r39_6_c w6 =>
        New (.cells #[.int .i64 (0 : Int), .int .i64 (0 : Int), .int .i64 (0 : Int), .int .i64 (0 : Int), .int .i64 (0 : Int), .int .i64 (0 : Int), .slice none 0 0] 45) w6 fun r_ w7 =>
        Sts [.int .i64 r39_0, .int .i64 r39_1, .int .i64 r39_2, .int .i64 r39_3, .int .i64 r39_4, .int .i64 r39_5, .slice r39_6_b r39_6_l r39_6_c] ⟨r_, 0, none⟩ 0 w7 fun w8 =>
        conn_Conn_fail.Call c (20 : Int) w8 fun w9 =>
        LdI .i64 ⟨r_, 0, none⟩ w9 fun x42_0 =>
        LdI .i64 ⟨r_, 1, none⟩ w9 fun x42_1 =>
        LdI .i64 ⟨r_, 2, none⟩ w9 fun x42_2 =>
        LdI .i64 ⟨r_, 3, none⟩ w9 fun x42_3 =>
        LdI .i64 ⟨r_, 4, none⟩ w9 fun x42_4 =>
        LdI .i64 ⟨r_, 5, none⟩ w9 fun x42_5 =>
        LdL ⟨r_, 6, none⟩ w9 fun x42_6_b x42_6_l x42_6_c =>
        conn_one.Call x42_0 x42_1 x42_2 x42_3 x42_4 x42_5 x42_6_b x42_6_l x42_6_c w9 fun r43_b r43_l r43_c w10 =>
        R r43_b r43_l r43_c (0 : Int) w10)))) = kstep Tryz.prog 44 Tryz.f47.results.toList (Tryz.f47.body.getD .skip) (conn_Conn_Abort.RV R) (kvc Tryz.prog 44 Tryz.f47.results.toList (Tryz.f47.body.getD .skip) (conn_Conn_Abort.RV R) [([(0, [1, 0, 1, 0, 1, 1, 1, 0, 1]), (1, [0]), (0, [1, 1])], fun σ w => sB1  w)] 2000) [(0, [])] [(0, .pointer c)] w := by kernel_rfl
theorem conn_Conn_Abort.B0_sound {R : Option Addr → Nat → Nat → Int → World → Prop}  (c : Option Addr) (w : World) (h : conn_Conn_Abort.B0 c w   R) :
    KW Tryz.prog 47 44 (conn_Conn_Abort.RV R) ([(0, [])].map (toItem (Tryz.f47.body.getD .skip))) [(0, .pointer c)] w := by
  exact block_spec Tryz.func47 Tryz.mixed (stops_cons (fun σ w h => by
      exact (conn_Conn_Abort.B1_sound   w h).weaken (Sub.nil _)) stops_nil) (Eq.mp (conn_Conn_Abort.B0_eq c w   R (fun  w => conn_Conn_Abort.B1  w  R)) h)
theorem conn_Conn_Abort.sound (c : Option Addr) (w : World) (R : Option Addr → Nat → Nat → Int → World → Prop) (h : conn_Conn_Abort.B0 c w R) : conn_Conn_Abort.Call c w R := by
  have hc := calls_of_block (args := #[.pointer c]) Tryz.func47 (body := (Tryz.f47.body.getD .skip)) (by kernel_rfl) (by kernel_rfl) (args_slot _) (conn_Conn_Abort.B0_sound c w h)
  exact hc.mono fun e w' he => by
    obtain ⟨v, rfl, hv⟩ := he
    exact conn_Conn_Abort.RV_elim hv
def connm_Conn_Abort.B1  (w : World)   (R : Option Addr → Nat → Nat → Int → World → Prop) : Prop :=
  New (.cells #[] 45) w fun b31 w1 =>
  R (some ⟨b31, 0, none⟩) 0 0 (0 : Int) w1
theorem connm_Conn_Abort.B1_eq  (w : World)   (R : Option Addr → Nat → Nat → Int → World → Prop)  :
    (
  New (.cells #[] 45) w fun b31 w1 =>
  R (some ⟨b31, 0, none⟩) 0 0 (0 : Int) w1) = kstep Tryz.prog 51 Tryz.f48.results.toList (Tryz.f48.body.getD .skip) (connm_Conn_Abort.RV R) (kvc Tryz.prog 51 Tryz.f48.results.toList (Tryz.f48.body.getD .skip) (connm_Conn_Abort.RV R) [] 2000) [(0, [1, 0, 1, 0, 1, 1, 1, 0, 1]), (1, [0]), (0, [1, 1])] [] w := by kernel_rfl
theorem connm_Conn_Abort.B1_sound {R : Option Addr → Nat → Nat → Int → World → Prop}   (w : World) (h : connm_Conn_Abort.B1  w   R) :
    KW Tryz.prog 48 51 (connm_Conn_Abort.RV R) ([(0, [1, 0, 1, 0, 1, 1, 1, 0, 1]), (1, [0]), (0, [1, 1])].map (toItem (Tryz.f48.body.getD .skip))) [] w := by
  exact block_spec Tryz.func48 Tryz.mixed stops_nil (Eq.mp (connm_Conn_Abort.B1_eq  w   R ) h)
def connm_Conn_Abort.B0 (c : Option Addr) (w : World)   (R : Option Addr → Nat → Nat → Int → World → Prop) : Prop :=
  Pn c fun a =>
  LdI .i64 a w fun x11 =>
  Bm (x11 == (0 : Int)) (
    R none 0 0 (13 : Int) w) (
    Bm (x11 == (4 : Int)) (
      Pn c fun a_1 =>
      LdI .i64 (a_1.add 1) w fun x19 =>
      Bm (x19 == (0 : Int)) (
        Pn c fun a_2 =>
        LdI .i64 (a_2.add 48) w fun x24 =>
        connm_Conn_fail.Call c (20 : Int) w fun w1 =>
        Pn c fun a_3 =>
        Sts [.int .i64 x24] (a_3.add 48) 0 w1 fun w2 =>
        connm_Conn_Abort.B1  w2  R) (
        connm_Conn_Abort.B1  w  R)) (
      Bm (x11 == (1 : Int)) (
        connm_Conn_fail.Call c (20 : Int) w fun w3 =>
        New (.cells #[] 45) w3 fun b36 w4 =>
        R (some ⟨b36, 0, none⟩) 0 0 (0 : Int) w4) (
        connm_Conn_out.Call c w fun r38 w5 =>
        Pn c fun a_4 =>
        LdI .i64 (a_4.add 7) w5 fun x42 =>
        api_SeqAdd.Call x42 r38 w5 fun r44 w6 =>
        connm_rst.Call r44 w6 fun r46_0 r46_1 r46_2 r46_3 r46_4 r46_5 r46_6_b r46_6_l r46_6_c w7 =>
        New (.cells #[.int .i64 (0 : Int), .int .i64 (0 : Int), .int .i64 (0 : Int), .int .i64 (0 : Int), .int .i64 (0 : Int), .int .i64 (0 : Int), .slice none 0 0] 45) w7 fun r_ w8 =>
        Sts [.int .i64 r46_0, .int .i64 r46_1, .int .i64 r46_2, .int .i64 r46_3, .int .i64 r46_4, .int .i64 r46_5, .slice r46_6_b r46_6_l r46_6_c] ⟨r_, 0, none⟩ 0 w8 fun w9 =>
        connm_Conn_fail.Call c (20 : Int) w9 fun w10 =>
        LdI .i64 ⟨r_, 0, none⟩ w10 fun x49_0 =>
        LdI .i64 ⟨r_, 1, none⟩ w10 fun x49_1 =>
        LdI .i64 ⟨r_, 2, none⟩ w10 fun x49_2 =>
        LdI .i64 ⟨r_, 3, none⟩ w10 fun x49_3 =>
        LdI .i64 ⟨r_, 4, none⟩ w10 fun x49_4 =>
        LdI .i64 ⟨r_, 5, none⟩ w10 fun x49_5 =>
        LdL ⟨r_, 6, none⟩ w10 fun x49_6_b x49_6_l x49_6_c =>
        New (.cells #[.int .i64 x49_0, .int .i64 x49_1, .int .i64 x49_2, .int .i64 x49_3, .int .i64 x49_4, .int .i64 x49_5, .slice x49_6_b x49_6_l x49_6_c] 45) w10 fun b50 w11 =>
        R (some ⟨b50, 0, none⟩) 1 1 (0 : Int) w11)))
theorem connm_Conn_Abort.B0_eq (c : Option Addr) (w : World)   (R : Option Addr → Nat → Nat → Int → World → Prop) (sB1 : World → Prop) :
    (
  Pn c fun a =>
  LdI .i64 a w fun x11 =>
  Bm (x11 == (0 : Int)) (
    R none 0 0 (13 : Int) w) (
    Bm (x11 == (4 : Int)) (
      Pn c fun a_1 =>
      LdI .i64 (a_1.add 1) w fun x19 =>
      Bm (x19 == (0 : Int)) (
        Pn c fun a_2 =>
        LdI .i64 (a_2.add 48) w fun x24 =>
        connm_Conn_fail.Call c (20 : Int) w fun w1 =>
        Pn c fun a_3 =>
        Sts [.int .i64 x24] (a_3.add 48) 0 w1 fun w2 =>
        sB1  w2) (
        sB1  w)) (
      Bm (x11 == (1 : Int)) (
        connm_Conn_fail.Call c (20 : Int) w fun w3 =>
        New (.cells #[] 45) w3 fun b36 w4 =>
        R (some ⟨b36, 0, none⟩) 0 0 (0 : Int) w4) (
        connm_Conn_out.Call c w fun r38 w5 =>
        Pn c fun a_4 =>
        LdI .i64 (a_4.add 7) w5 fun x42 =>
        api_SeqAdd.Call x42 r38 w5 fun r44 w6 =>
        connm_rst.Call r44 w6 fun r46_0 r46_1 r46_2 r46_3 r46_4 r46_5 r46_6_b r46_6_l r46_6_c w7 =>
        New (.cells #[.int .i64 (0 : Int), .int .i64 (0 : Int), .int .i64 (0 : Int), .int .i64 (0 : Int), .int .i64 (0 : Int), .int .i64 (0 : Int), .slice none 0 0] 45) w7 fun r_ w8 =>
        Sts [.int .i64 r46_0, .int .i64 r46_1, .int .i64 r46_2, .int .i64 r46_3, .int .i64 r46_4, .int .i64 r46_5, .slice r46_6_b r46_6_l r46_6_c] ⟨r_, 0, none⟩ 0 w8 fun w9 =>
        connm_Conn_fail.Call c (20 : Int) w9 fun w10 =>
        LdI .i64 ⟨r_, 0, none⟩ w10 fun x49_0 =>
        LdI .i64 ⟨r_, 1, none⟩ w10 fun x49_1 =>
        LdI .i64 ⟨r_, 2, none⟩ w10 fun x49_2 =>
        LdI .i64 ⟨r_, 3, none⟩ w10 fun x49_3 =>
        LdI .i64 ⟨r_, 4, none⟩ w10 fun x49_4 =>
        LdI .i64 ⟨r_, 5, none⟩ w10 fun x49_5 =>
        LdL ⟨r_, 6, none⟩ w10 fun x49_6_b x49_6_l x49_6_c =>
        New (.cells #[.int .i64 x49_0, .int .i64 x49_1, .int .i64 x49_2, .int .i64 x49_3, .int .i64 x49_4, .int .i64 x49_5, .slice x49_6_b x49_6_l x49_6_c] 45) w10 fun b50 w11 =>
        R (some ⟨b50, 0, none⟩) 1 1 (0 : Int) w11)))) = kstep Tryz.prog 51 Tryz.f48.results.toList (Tryz.f48.body.getD .skip) (connm_Conn_Abort.RV R) (kvc Tryz.prog 51 Tryz.f48.results.toList (Tryz.f48.body.getD .skip) (connm_Conn_Abort.RV R) [([(0, [1, 0, 1, 0, 1, 1, 1, 0, 1]), (1, [0]), (0, [1, 1])], fun σ w => sB1  w)] 2000) [(0, [])] [(0, .pointer c)] w := by kernel_rfl
theorem connm_Conn_Abort.B0_sound {R : Option Addr → Nat → Nat → Int → World → Prop}  (c : Option Addr) (w : World) (h : connm_Conn_Abort.B0 c w   R) :
    KW Tryz.prog 48 51 (connm_Conn_Abort.RV R) ([(0, [])].map (toItem (Tryz.f48.body.getD .skip))) [(0, .pointer c)] w := by
  exact block_spec Tryz.func48 Tryz.mixed (stops_cons (fun σ w h => by
      exact (connm_Conn_Abort.B1_sound   w h).weaken (Sub.nil _)) stops_nil) (Eq.mp (connm_Conn_Abort.B0_eq c w   R (fun  w => connm_Conn_Abort.B1  w  R)) h)
theorem connm_Conn_Abort.sound (c : Option Addr) (w : World) (R : Option Addr → Nat → Nat → Int → World → Prop) (h : connm_Conn_Abort.B0 c w R) : connm_Conn_Abort.Call c w R := by
  have hc := calls_of_block (args := #[.pointer c]) Tryz.func48 (body := (Tryz.f48.body.getD .skip)) (by kernel_rfl) (by kernel_rfl) (args_slot _) (connm_Conn_Abort.B0_sound c w h)
  exact hc.mono fun e w' he => by
    obtain ⟨v, rfl, hv⟩ := he
    exact connm_Conn_Abort.RV_elim hv
def seg_SendBuf_Bytes.B0 (b : Option Addr) (w : World)   (R : Option Addr → Nat → Nat → World → Prop) : Prop :=
  Pn b fun a =>
  LdI .i64 (a.add 17) w fun x7 =>
  seg_SendBuf_span.Call b (0 : Int) x7 w fun r8_b r8_l r8_c w1 =>
  R r8_b r8_l r8_c w1
theorem seg_SendBuf_Bytes.B0_eq (b : Option Addr) (w : World)   (R : Option Addr → Nat → Nat → World → Prop)  :
    (
  Pn b fun a =>
  LdI .i64 (a.add 17) w fun x7 =>
  seg_SendBuf_span.Call b (0 : Int) x7 w fun r8_b r8_l r8_c w1 =>
  R r8_b r8_l r8_c w1) = kstep Tryz.prog 9 Tryz.f49.results.toList (Tryz.f49.body.getD .skip) (seg_SendBuf_Bytes.RV R) (kvc Tryz.prog 9 Tryz.f49.results.toList (Tryz.f49.body.getD .skip) (seg_SendBuf_Bytes.RV R) [] 2000) [(0, [])] [(0, .pointer b)] w := by kernel_rfl
theorem seg_SendBuf_Bytes.B0_sound {R : Option Addr → Nat → Nat → World → Prop}  (b : Option Addr) (w : World) (h : seg_SendBuf_Bytes.B0 b w   R) :
    KW Tryz.prog 49 9 (seg_SendBuf_Bytes.RV R) ([(0, [])].map (toItem (Tryz.f49.body.getD .skip))) [(0, .pointer b)] w := by
  exact block_spec Tryz.func49 Tryz.mixed stops_nil (Eq.mp (seg_SendBuf_Bytes.B0_eq b w   R ) h)
theorem seg_SendBuf_Bytes.sound (b : Option Addr) (w : World) (R : Option Addr → Nat → Nat → World → Prop) (h : seg_SendBuf_Bytes.B0 b w R) : seg_SendBuf_Bytes.Call b w R := by
  have hc := calls_of_block (args := #[.pointer b]) Tryz.func49 (body := (Tryz.f49.body.getD .skip)) (by kernel_rfl) (by kernel_rfl) (args_slot _) (seg_SendBuf_Bytes.B0_sound b w h)
  exact hc.mono fun e w' he => by
    obtain ⟨v, rfl, hv⟩ := he
    exact seg_SendBuf_Bytes.RV_elim hv
def seg_RecvBuf_Bytes.B0 (b : Option Addr) (w : World)   (R : Option Addr → Nat → Nat → World → Prop) : Prop :=
  Pn b fun a =>
  LdI .i64 (a.add 17) w fun x7 =>
  seg_RecvBuf_first.Call b x7 w fun r8_b r8_l r8_c w1 =>
  R r8_b r8_l r8_c w1
theorem seg_RecvBuf_Bytes.B0_eq (b : Option Addr) (w : World)   (R : Option Addr → Nat → Nat → World → Prop)  :
    (
  Pn b fun a =>
  LdI .i64 (a.add 17) w fun x7 =>
  seg_RecvBuf_first.Call b x7 w fun r8_b r8_l r8_c w1 =>
  R r8_b r8_l r8_c w1) = kstep Tryz.prog 9 Tryz.f50.results.toList (Tryz.f50.body.getD .skip) (seg_RecvBuf_Bytes.RV R) (kvc Tryz.prog 9 Tryz.f50.results.toList (Tryz.f50.body.getD .skip) (seg_RecvBuf_Bytes.RV R) [] 2000) [(0, [])] [(0, .pointer b)] w := by kernel_rfl
theorem seg_RecvBuf_Bytes.B0_sound {R : Option Addr → Nat → Nat → World → Prop}  (b : Option Addr) (w : World) (h : seg_RecvBuf_Bytes.B0 b w   R) :
    KW Tryz.prog 50 9 (seg_RecvBuf_Bytes.RV R) ([(0, [])].map (toItem (Tryz.f50.body.getD .skip))) [(0, .pointer b)] w := by
  exact block_spec Tryz.func50 Tryz.mixed stops_nil (Eq.mp (seg_RecvBuf_Bytes.B0_eq b w   R ) h)
theorem seg_RecvBuf_Bytes.sound (b : Option Addr) (w : World) (R : Option Addr → Nat → Nat → World → Prop) (h : seg_RecvBuf_Bytes.B0 b w R) : seg_RecvBuf_Bytes.Call b w R := by
  have hc := calls_of_block (args := #[.pointer b]) Tryz.func50 (body := (Tryz.f50.body.getD .skip)) (by kernel_rfl) (by kernel_rfl) (args_slot _) (seg_RecvBuf_Bytes.B0_sound b w h)
  exact hc.mono fun e w' he => by
    obtain ⟨v, rfl, hv⟩ := he
    exact seg_RecvBuf_Bytes.RV_elim hv
def seg_RecvBuf_Ahead.B1 (b out_b : Option Addr) (out_l out_c : Nat) (d : Int) (w : World) (N1 : Option Addr → Option Addr → Nat → Nat → Int → World → Prop)  (R : Option Addr → Nat → Nat → World → Prop) : Prop :=
  N1 b out_b out_l out_c (IntKind.i64.wrap (d + (1 : Int))) w
theorem seg_RecvBuf_Ahead.B1_eq (b out_b : Option Addr) (out_l out_c : Nat) (d : Int) (w : World) (N1 : Option Addr → Option Addr → Nat → Nat → Int → World → Prop)  (R : Option Addr → Nat → Nat → World → Prop)  :
    (
  N1 b out_b out_l out_c (IntKind.i64.wrap (d + (1 : Int))) w) = kstep Tryz.prog 40 Tryz.f51.results.toList (Tryz.f51.body.getD .skip) (seg_RecvBuf_Ahead.RV R) (kvc Tryz.prog 40 Tryz.f51.results.toList (Tryz.f51.body.getD .skip) (seg_RecvBuf_Ahead.RV R) [([(0, [1, 1, 0, 1, 0, 0]), (2, [1, 1, 0, 1, 0, 0]), (1, [0]), (0, [1, 1, 1])], fun σ w => dP (slotOf σ 0) fun b_ => dL (slotOf σ 3) fun out_b_ out_l_ out_c_ => dI .i64 (slotOf σ 4) fun d_ => N1 b_ out_b_ out_l_ out_c_ d_ w)] 2000) [(0, [1, 1, 0, 1, 0, 0, 1, 1]), (2, [1, 1, 0, 1, 0, 0]), (1, [0]), (0, [1, 1, 1])] [(0, .pointer b), (3, .slice out_b out_l out_c), (4, .int .i64 d)] w := by kernel_rfl
theorem seg_RecvBuf_Ahead.B1_sound {R : Option Addr → Nat → Nat → World → Prop} {N1 : Option Addr → Option Addr → Nat → Nat → Int → World → Prop} (hN1 : ∀ b out_b out_l out_c d w, N1 b out_b out_l out_c d w → KW Tryz.prog 51 40 (seg_RecvBuf_Ahead.RV R) ([(0, [1, 1, 0, 1, 0, 0]), (2, [1, 1, 0, 1, 0, 0]), (1, [0]), (0, [1, 1, 1])].map (toItem (Tryz.f51.body.getD .skip))) [(0, .pointer b), (3, .slice out_b out_l out_c), (4, .int .i64 d)] w) (b out_b : Option Addr) (out_l out_c : Nat) (d : Int) (w : World) (h : seg_RecvBuf_Ahead.B1 b out_b out_l out_c d w N1  R) :
    KW Tryz.prog 51 40 (seg_RecvBuf_Ahead.RV R) ([(0, [1, 1, 0, 1, 0, 0, 1, 1]), (2, [1, 1, 0, 1, 0, 0]), (1, [0]), (0, [1, 1, 1])].map (toItem (Tryz.f51.body.getD .skip))) [(0, .pointer b), (3, .slice out_b out_l out_c), (4, .int .i64 d)] w := by
  exact block_spec Tryz.func51 Tryz.mixed (stops_cons (fun σ w h => by
      obtain ⟨b_, e0, h⟩ := dP_elim h
      obtain ⟨out_b_, out_l_, out_c_, e1, h⟩ := dL_elim h
      obtain ⟨d_, e2, h⟩ := dI_elim h
      exact (hN1 b_ out_b_ out_l_ out_c_ d_ w h).weaken (Sub.cons (Sub.cons (Sub.cons (Sub.nil _) e2) e1) e0)) stops_nil) (Eq.mp (seg_RecvBuf_Ahead.B1_eq b out_b out_l out_c d w N1  R ) h)
def seg_RecvBuf_Ahead.L1b (b out_b : Option Addr) (out_l out_c : Nat) (d : Int) (w : World)  (N1 : Option Addr → Option Addr → Nat → Nat → Int → World → Prop) (R : Option Addr → Nat → Nat → World → Prop) : Prop :=
  Bm (decide (d < (16 : Int))) (
    Pn out_b fun a =>
    (0 ≤ d ∧ d < ((out_l : Nat) : Int)) ∧
    Sts [.int .i64 (-1 : Int)] (Addr.add a (d.toNat * 1)) 0 w fun w1 =>
    Pn b fun a_1 =>
    LdI .u16 (a_1.add 18) w1.drew fun x16 =>
    seg_RecvBuf_bit.Call b d w1.drew fun r19 w2 =>
    w2.cell? (a_1.add 18) = some (.int .u16 x16) ∧
    Bm ((IntKind.u16.wrap (BitVec.ofInt IntKind.u16.bits x16 &&& BitVec.ofInt IntKind.u16.bits r19).toNat) != (0 : Int)) (
      Pn b fun a_2 =>
      LdI .u8 (a_2.add 16) w2.drew fun x28 =>
      (16 : Int) ≠ 0 ∧
      Pn b fun a_3 =>
      (0 ≤ ((IntKind.i64.wrap ((IntKind.i64.wrap x28) + d)).tmod (16 : Int)) ∧ ((IntKind.i64.wrap ((IntKind.i64.wrap x28) + d)).tmod (16 : Int)) < ((16 : Nat) : Int)) ∧
      LdI .u8 (Addr.add a_3 (((IntKind.i64.wrap ((IntKind.i64.wrap x28) + d)).tmod (16 : Int)).toNat * 1)) w2.drew fun x36 =>
      Pn out_b fun a_4 =>
      (0 ≤ d ∧ d < ((out_l : Nat) : Int)) ∧
      Sts [.int .i64 (IntKind.i64.wrap x36)] (Addr.add a_4 (d.toNat * 1)) 0 w2.drew fun w3 =>
      seg_RecvBuf_Ahead.B1 b out_b out_l out_c d w3 N1 R) (
      seg_RecvBuf_Ahead.B1 b out_b out_l out_c d w2 N1 R)) (
    R out_b out_l out_c w)
theorem seg_RecvBuf_Ahead.L1b_eq (b out_b : Option Addr) (out_l out_c : Nat) (d : Int) (w : World)  (N1 : Option Addr → Option Addr → Nat → Nat → Int → World → Prop) (R : Option Addr → Nat → Nat → World → Prop) (sB1 : Option Addr → Option Addr → Nat → Nat → Int → World → Prop) :
    (
  Bm (decide (d < (16 : Int))) (
    Pn out_b fun a =>
    (0 ≤ d ∧ d < ((out_l : Nat) : Int)) ∧
    Sts [.int .i64 (-1 : Int)] (Addr.add a (d.toNat * 1)) 0 w fun w1 =>
    Pn b fun a_1 =>
    LdI .u16 (a_1.add 18) w1.drew fun x16 =>
    seg_RecvBuf_bit.Call b d w1.drew fun r19 w2 =>
    w2.cell? (a_1.add 18) = some (.int .u16 x16) ∧
    Bm ((IntKind.u16.wrap (BitVec.ofInt IntKind.u16.bits x16 &&& BitVec.ofInt IntKind.u16.bits r19).toNat) != (0 : Int)) (
      Pn b fun a_2 =>
      LdI .u8 (a_2.add 16) w2.drew fun x28 =>
      (16 : Int) ≠ 0 ∧
      Pn b fun a_3 =>
      (0 ≤ ((IntKind.i64.wrap ((IntKind.i64.wrap x28) + d)).tmod (16 : Int)) ∧ ((IntKind.i64.wrap ((IntKind.i64.wrap x28) + d)).tmod (16 : Int)) < ((16 : Nat) : Int)) ∧
      LdI .u8 (Addr.add a_3 (((IntKind.i64.wrap ((IntKind.i64.wrap x28) + d)).tmod (16 : Int)).toNat * 1)) w2.drew fun x36 =>
      Pn out_b fun a_4 =>
      (0 ≤ d ∧ d < ((out_l : Nat) : Int)) ∧
      Sts [.int .i64 (IntKind.i64.wrap x36)] (Addr.add a_4 (d.toNat * 1)) 0 w2.drew fun w3 =>
      sB1 b out_b out_l out_c d w3) (
      sB1 b out_b out_l out_c d w2)) (
    R out_b out_l out_c w)) = kstep Tryz.prog 40 Tryz.f51.results.toList (Tryz.f51.body.getD .skip) (seg_RecvBuf_Ahead.RV R) (kvc Tryz.prog 40 Tryz.f51.results.toList (Tryz.f51.body.getD .skip) (seg_RecvBuf_Ahead.RV R) [([(0, [1, 1, 0, 1, 0, 0, 1, 1]), (2, [1, 1, 0, 1, 0, 0]), (1, [0]), (0, [1, 1, 1])], fun σ w => dP (slotOf σ 0) fun b_ => dL (slotOf σ 3) fun out_b_ out_l_ out_c_ => dI .i64 (slotOf σ 4) fun d_ => sB1 b_ out_b_ out_l_ out_c_ d_ w)] 2000) [(0, [1, 1, 0, 1, 0, 0]), (2, [1, 1, 0, 1, 0, 0]), (1, [0]), (0, [1, 1, 1])] [(0, .pointer b), (3, .slice out_b out_l out_c), (4, .int .i64 d)] w := by kernel_rfl
theorem seg_RecvBuf_Ahead.L1b_sound {R : Option Addr → Nat → Nat → World → Prop} {N1 : Option Addr → Option Addr → Nat → Nat → Int → World → Prop} (hN1 : ∀ b out_b out_l out_c d w, N1 b out_b out_l out_c d w → KW Tryz.prog 51 40 (seg_RecvBuf_Ahead.RV R) ([(0, [1, 1, 0, 1, 0, 0]), (2, [1, 1, 0, 1, 0, 0]), (1, [0]), (0, [1, 1, 1])].map (toItem (Tryz.f51.body.getD .skip))) [(0, .pointer b), (3, .slice out_b out_l out_c), (4, .int .i64 d)] w) (b out_b : Option Addr) (out_l out_c : Nat) (d : Int) (w : World) (h : seg_RecvBuf_Ahead.L1b b out_b out_l out_c d w  N1 R) :
    KW Tryz.prog 51 40 (seg_RecvBuf_Ahead.RV R) ([(0, [1, 1, 0, 1, 0, 0]), (2, [1, 1, 0, 1, 0, 0]), (1, [0]), (0, [1, 1, 1])].map (toItem (Tryz.f51.body.getD .skip))) [(0, .pointer b), (3, .slice out_b out_l out_c), (4, .int .i64 d)] w := by
  exact block_spec Tryz.func51 Tryz.mixed (stops_cons (fun σ w h => by
      obtain ⟨b_, e0, h⟩ := dP_elim h
      obtain ⟨out_b_, out_l_, out_c_, e1, h⟩ := dL_elim h
      obtain ⟨d_, e2, h⟩ := dI_elim h
      exact (seg_RecvBuf_Ahead.B1_sound hN1 b_ out_b_ out_l_ out_c_ d_ w h).weaken (Sub.cons (Sub.cons (Sub.cons (Sub.nil _) e2) e1) e0)) stops_nil) (Eq.mp (seg_RecvBuf_Ahead.L1b_eq b out_b out_l out_c d w  N1 R (fun b_ out_b_ out_l_ out_c_ d_ w => seg_RecvBuf_Ahead.B1 b_ out_b_ out_l_ out_c_ d_ w N1 R)) h)
def seg_RecvBuf_Ahead.L1 (b out_b : Option Addr) (out_l out_c : Nat) (d : Int) (w : World)  (R : Option Addr → Nat → Nat → World → Prop) : Prop :=
  ∃ (I : Nat → Option Addr → Option Addr → Nat → Nat → Int → World → Prop) (m : Nat), I m b out_b out_l out_c d w ∧ ∀ m b out_b out_l out_c d w, I m b out_b out_l out_c d w → seg_RecvBuf_Ahead.L1b b out_b out_l out_c d w  (fun b' out_b' out_l' out_c' d' w' => ∃ m', m' < m ∧ I m' b' out_b' out_l' out_c' d' w') R
theorem seg_RecvBuf_Ahead.L1_sound {R : Option Addr → Nat → Nat → World → Prop}  (b out_b : Option Addr) (out_l out_c : Nat) (d : Int) (w : World) (h : seg_RecvBuf_Ahead.L1 b out_b out_l out_c d w  R) :
    KW Tryz.prog 51 40 (seg_RecvBuf_Ahead.RV R) ([(0, [1, 1, 0, 1, 0, 0]), (2, [1, 1, 0, 1, 0, 0]), (1, [0]), (0, [1, 1, 1])].map (toItem (Tryz.f51.body.getD .skip))) [(0, .pointer b), (3, .slice out_b out_l out_c), (4, .int .i64 d)] w := by
  obtain ⟨I, m, hBase, hr⟩ := h
  refine KW.loop (fun m σ w => ∃ (b out_b : Option Addr) (out_l out_c : Nat) (d : Int), σ = [(0, .pointer b), (3, .slice out_b out_l out_c), (4, .int .i64 d)] ∧ I m b out_b out_l out_c d w) ?_ m _ w ⟨b, out_b, out_l, out_c, d, rfl, hBase⟩
  rintro m ih σ w ⟨b, out_b, out_l, out_c, d, rfl, hI⟩
  exact seg_RecvBuf_Ahead.L1b_sound  (N1 := fun b' out_b' out_l' out_c' d' w' => ∃ m', m' < m ∧ I m' b' out_b' out_l' out_c' d' w') (fun b' out_b' out_l' out_c' d' w' hx => by obtain ⟨m', hlt, hI'⟩ := hx; exact ih m' hlt _ w' ⟨b', out_b', out_l', out_c', d', rfl, hI'⟩) b out_b out_l out_c d w (hr m b out_b out_l out_c d w hI)
def seg_RecvBuf_Ahead.B0 (b : Option Addr) (w : World)   (R : Option Addr → Nat → Nat → World → Prop) : Prop :=
  Make 3 (.int .i64 (0 : Int)) 1 8 (16 : Int) (16 : Int) w fun b5 w1 =>
  seg_RecvBuf_Ahead.L1 b (some ⟨b5, 0, none⟩) 16 16 (0 : Int) w1  R
theorem seg_RecvBuf_Ahead.B0_eq (b : Option Addr) (w : World)   (R : Option Addr → Nat → Nat → World → Prop) (sL1 : Option Addr → Option Addr → Nat → Nat → Int → World → Prop) :
    (
  Make 3 (.int .i64 (0 : Int)) 1 8 (16 : Int) (16 : Int) w fun b5 w1 =>
  sL1 b (some ⟨b5, 0, none⟩) 16 16 (0 : Int) w1) = kstep Tryz.prog 40 Tryz.f51.results.toList (Tryz.f51.body.getD .skip) (seg_RecvBuf_Ahead.RV R) (kvc Tryz.prog 40 Tryz.f51.results.toList (Tryz.f51.body.getD .skip) (seg_RecvBuf_Ahead.RV R) [([(0, [1, 1, 0, 1, 0, 0]), (2, [1, 1, 0, 1, 0, 0]), (1, [0]), (0, [1, 1, 1])], fun σ w => dP (slotOf σ 0) fun b_ => dL (slotOf σ 3) fun out_b_ out_l_ out_c_ => dI .i64 (slotOf σ 4) fun d_ => sL1 b_ out_b_ out_l_ out_c_ d_ w)] 2000) [(0, [])] [(0, .pointer b)] w := by kernel_rfl
theorem seg_RecvBuf_Ahead.B0_sound {R : Option Addr → Nat → Nat → World → Prop}  (b : Option Addr) (w : World) (h : seg_RecvBuf_Ahead.B0 b w   R) :
    KW Tryz.prog 51 40 (seg_RecvBuf_Ahead.RV R) ([(0, [])].map (toItem (Tryz.f51.body.getD .skip))) [(0, .pointer b)] w := by
  exact block_spec Tryz.func51 Tryz.mixed (stops_cons (fun σ w h => by
      obtain ⟨b_, e0, h⟩ := dP_elim h
      obtain ⟨out_b_, out_l_, out_c_, e1, h⟩ := dL_elim h
      obtain ⟨d_, e2, h⟩ := dI_elim h
      exact (seg_RecvBuf_Ahead.L1_sound  b_ out_b_ out_l_ out_c_ d_ w h).weaken (Sub.cons (Sub.cons (Sub.cons (Sub.nil _) e2) e1) e0)) stops_nil) (Eq.mp (seg_RecvBuf_Ahead.B0_eq b w   R (fun b_ out_b_ out_l_ out_c_ d_ w => seg_RecvBuf_Ahead.L1 b_ out_b_ out_l_ out_c_ d_ w  R)) h)
theorem seg_RecvBuf_Ahead.sound (b : Option Addr) (w : World) (R : Option Addr → Nat → Nat → World → Prop) (h : seg_RecvBuf_Ahead.B0 b w R) : seg_RecvBuf_Ahead.Call b w R := by
  have hc := calls_of_block (args := #[.pointer b]) Tryz.func51 (body := (Tryz.f51.body.getD .skip)) (by kernel_rfl) (by kernel_rfl) (args_slot _) (seg_RecvBuf_Ahead.B0_sound b w h)
  exact hc.mono fun e w' he => by
    obtain ⟨v, rfl, hv⟩ := he
    exact seg_RecvBuf_Ahead.RV_elim hv
def conn_Conn_sndUna.B0 (c : Option Addr) (w : World)   (R : Int → World → Prop) : Prop :=
  Pn c fun a =>
  LdP a w fun x7 =>
  seg_SendBuf_Una.Call x7 w fun r8 w1 =>
  Pn c fun a_1 =>
  LdB (a_1.add 6) w1 fun x12 =>
  Bm x12 (
    api_SeqAdd.Call r8 (1 : Int) w1 fun r14 w2 =>
    R r14 w2) (
    R r8 w1)
theorem conn_Conn_sndUna.B0_eq (c : Option Addr) (w : World)   (R : Int → World → Prop)  :
    (
  Pn c fun a =>
  LdP a w fun x7 =>
  seg_SendBuf_Una.Call x7 w fun r8 w1 =>
  Pn c fun a_1 =>
  LdB (a_1.add 6) w1 fun x12 =>
  Bm x12 (
    api_SeqAdd.Call r8 (1 : Int) w1 fun r14 w2 =>
    R r14 w2) (
    R r8 w1)) = kstep Tryz.prog 16 Tryz.f52.results.toList (Tryz.f52.body.getD .skip) (conn_Conn_sndUna.RV R) (kvc Tryz.prog 16 Tryz.f52.results.toList (Tryz.f52.body.getD .skip) (conn_Conn_sndUna.RV R) [] 2000) [(0, [])] [(0, .pointer c)] w := by kernel_rfl
theorem conn_Conn_sndUna.B0_sound {R : Int → World → Prop}  (c : Option Addr) (w : World) (h : conn_Conn_sndUna.B0 c w   R) :
    KW Tryz.prog 52 16 (conn_Conn_sndUna.RV R) ([(0, [])].map (toItem (Tryz.f52.body.getD .skip))) [(0, .pointer c)] w := by
  exact block_spec Tryz.func52 Tryz.mixed stops_nil (Eq.mp (conn_Conn_sndUna.B0_eq c w   R ) h)
theorem conn_Conn_sndUna.sound (c : Option Addr) (w : World) (R : Int → World → Prop) (h : conn_Conn_sndUna.B0 c w R) : conn_Conn_sndUna.Call c w R := by
  have hc := calls_of_block (args := #[.pointer c]) Tryz.func52 (body := (Tryz.f52.body.getD .skip)) (by kernel_rfl) (by kernel_rfl) (args_slot _) (conn_Conn_sndUna.B0_sound c w h)
  exact hc.mono fun e w' he => by
    obtain ⟨v, rfl, hv⟩ := he
    exact conn_Conn_sndUna.RV_elim hv
def conn_Conn_sndNxt.B0 (c : Option Addr) (w : World)   (R : Int → World → Prop) : Prop :=
  conn_Conn_sndUna.Call c w fun r6 w1 =>
  conn_Conn_flying.Call c w1 fun r8 w2 =>
  api_SeqAdd.Call r6 r8 w2 fun r11 w3 =>
  R r11 w3
theorem conn_Conn_sndNxt.B0_eq (c : Option Addr) (w : World)   (R : Int → World → Prop)  :
    (
  conn_Conn_sndUna.Call c w fun r6 w1 =>
  conn_Conn_flying.Call c w1 fun r8 w2 =>
  api_SeqAdd.Call r6 r8 w2 fun r11 w3 =>
  R r11 w3) = kstep Tryz.prog 12 Tryz.f53.results.toList (Tryz.f53.body.getD .skip) (conn_Conn_sndNxt.RV R) (kvc Tryz.prog 12 Tryz.f53.results.toList (Tryz.f53.body.getD .skip) (conn_Conn_sndNxt.RV R) [] 2000) [(0, [])] [(0, .pointer c)] w := by kernel_rfl
theorem conn_Conn_sndNxt.B0_sound {R : Int → World → Prop}  (c : Option Addr) (w : World) (h : conn_Conn_sndNxt.B0 c w   R) :
    KW Tryz.prog 53 12 (conn_Conn_sndNxt.RV R) ([(0, [])].map (toItem (Tryz.f53.body.getD .skip))) [(0, .pointer c)] w := by
  exact block_spec Tryz.func53 Tryz.mixed stops_nil (Eq.mp (conn_Conn_sndNxt.B0_eq c w   R ) h)
theorem conn_Conn_sndNxt.sound (c : Option Addr) (w : World) (R : Int → World → Prop) (h : conn_Conn_sndNxt.B0 c w R) : conn_Conn_sndNxt.Call c w R := by
  have hc := calls_of_block (args := #[.pointer c]) Tryz.func53 (body := (Tryz.f53.body.getD .skip)) (by kernel_rfl) (by kernel_rfl) (args_slot _) (conn_Conn_sndNxt.B0_sound c w h)
  exact hc.mono fun e w' he => by
    obtain ⟨v, rfl, hv⟩ := he
    exact conn_Conn_sndNxt.RV_elim hv
def conn_Conn_rcvNxt.B0 (c : Option Addr) (w : World)   (R : Int → World → Prop) : Prop :=
  Pn c fun a =>
  LdP (a.add 1) w fun x7 =>
  seg_RecvBuf_Nxt.Call x7 w fun r8 w1 =>
  Pn c fun a_1 =>
  LdB (a_1.add 7) w1 fun x12 =>
  Bm x12 (
    api_SeqAdd.Call r8 (1 : Int) w1 fun r14 w2 =>
    R r14 w2) (
    R r8 w1)
theorem conn_Conn_rcvNxt.B0_eq (c : Option Addr) (w : World)   (R : Int → World → Prop)  :
    (
  Pn c fun a =>
  LdP (a.add 1) w fun x7 =>
  seg_RecvBuf_Nxt.Call x7 w fun r8 w1 =>
  Pn c fun a_1 =>
  LdB (a_1.add 7) w1 fun x12 =>
  Bm x12 (
    api_SeqAdd.Call r8 (1 : Int) w1 fun r14 w2 =>
    R r14 w2) (
    R r8 w1)) = kstep Tryz.prog 16 Tryz.f54.results.toList (Tryz.f54.body.getD .skip) (conn_Conn_rcvNxt.RV R) (kvc Tryz.prog 16 Tryz.f54.results.toList (Tryz.f54.body.getD .skip) (conn_Conn_rcvNxt.RV R) [] 2000) [(0, [])] [(0, .pointer c)] w := by kernel_rfl
theorem conn_Conn_rcvNxt.B0_sound {R : Int → World → Prop}  (c : Option Addr) (w : World) (h : conn_Conn_rcvNxt.B0 c w   R) :
    KW Tryz.prog 54 16 (conn_Conn_rcvNxt.RV R) ([(0, [])].map (toItem (Tryz.f54.body.getD .skip))) [(0, .pointer c)] w := by
  exact block_spec Tryz.func54 Tryz.mixed stops_nil (Eq.mp (conn_Conn_rcvNxt.B0_eq c w   R ) h)
theorem conn_Conn_rcvNxt.sound (c : Option Addr) (w : World) (R : Int → World → Prop) (h : conn_Conn_rcvNxt.B0 c w R) : conn_Conn_rcvNxt.Call c w R := by
  have hc := calls_of_block (args := #[.pointer c]) Tryz.func54 (body := (Tryz.f54.body.getD .skip)) (by kernel_rfl) (by kernel_rfl) (args_slot _) (conn_Conn_rcvNxt.B0_sound c w h)
  exact hc.mono fun e w' he => by
    obtain ⟨v, rfl, hv⟩ := he
    exact conn_Conn_rcvNxt.RV_elim hv
def seg_SendBuf_Len.B0 (b : Option Addr) (w : World)   (R : Int → World → Prop) : Prop :=
  Pn b fun a =>
  LdI .i64 (a.add 17) w fun x6 =>
  R x6 w
theorem seg_SendBuf_Len.B0_eq (b : Option Addr) (w : World)   (R : Int → World → Prop)  :
    (
  Pn b fun a =>
  LdI .i64 (a.add 17) w fun x6 =>
  R x6 w) = kstep Tryz.prog 7 Tryz.f55.results.toList (Tryz.f55.body.getD .skip) (seg_SendBuf_Len.RV R) (kvc Tryz.prog 7 Tryz.f55.results.toList (Tryz.f55.body.getD .skip) (seg_SendBuf_Len.RV R) [] 2000) [(0, [])] [(0, .pointer b)] w := by kernel_rfl
theorem seg_SendBuf_Len.B0_sound {R : Int → World → Prop}  (b : Option Addr) (w : World) (h : seg_SendBuf_Len.B0 b w   R) :
    KW Tryz.prog 55 7 (seg_SendBuf_Len.RV R) ([(0, [])].map (toItem (Tryz.f55.body.getD .skip))) [(0, .pointer b)] w := by
  exact block_spec Tryz.func55 Tryz.mixed stops_nil (Eq.mp (seg_SendBuf_Len.B0_eq b w   R ) h)
theorem seg_SendBuf_Len.sound (b : Option Addr) (w : World) (R : Int → World → Prop) (h : seg_SendBuf_Len.B0 b w R) : seg_SendBuf_Len.Call b w R := by
  have hc := calls_of_block (args := #[.pointer b]) Tryz.func55 (body := (Tryz.f55.body.getD .skip)) (by kernel_rfl) (by kernel_rfl) (args_slot _) (seg_SendBuf_Len.B0_sound b w h)
  exact hc.mono fun e w' he => by
    obtain ⟨v, rfl, hv⟩ := he
    exact seg_SendBuf_Len.RV_elim hv
def seg_SendBuf_Unsent.B0 (b : Option Addr) (w : World)   (R : Int → World → Prop) : Prop :=
  Pn b fun a =>
  LdI .i64 (a.add 17) w.drew fun x6 =>
  Pn b fun a_1 =>
  LdI .i64 (a_1.add 18) w.drew fun x10 =>
  R (IntKind.i64.wrap (x6 - x10)) w.drew
theorem seg_SendBuf_Unsent.B0_eq (b : Option Addr) (w : World)   (R : Int → World → Prop)  :
    (
  Pn b fun a =>
  LdI .i64 (a.add 17) w.drew fun x6 =>
  Pn b fun a_1 =>
  LdI .i64 (a_1.add 18) w.drew fun x10 =>
  R (IntKind.i64.wrap (x6 - x10)) w.drew) = kstep Tryz.prog 12 Tryz.f56.results.toList (Tryz.f56.body.getD .skip) (seg_SendBuf_Unsent.RV R) (kvc Tryz.prog 12 Tryz.f56.results.toList (Tryz.f56.body.getD .skip) (seg_SendBuf_Unsent.RV R) [] 2000) [(0, [])] [(0, .pointer b)] w := by kernel_rfl
theorem seg_SendBuf_Unsent.B0_sound {R : Int → World → Prop}  (b : Option Addr) (w : World) (h : seg_SendBuf_Unsent.B0 b w   R) :
    KW Tryz.prog 56 12 (seg_SendBuf_Unsent.RV R) ([(0, [])].map (toItem (Tryz.f56.body.getD .skip))) [(0, .pointer b)] w := by
  exact block_spec Tryz.func56 Tryz.mixed stops_nil (Eq.mp (seg_SendBuf_Unsent.B0_eq b w   R ) h)
theorem seg_SendBuf_Unsent.sound (b : Option Addr) (w : World) (R : Int → World → Prop) (h : seg_SendBuf_Unsent.B0 b w R) : seg_SendBuf_Unsent.Call b w R := by
  have hc := calls_of_block (args := #[.pointer b]) Tryz.func56 (body := (Tryz.f56.body.getD .skip)) (by kernel_rfl) (by kernel_rfl) (args_slot _) (seg_SendBuf_Unsent.B0_sound b w h)
  exact hc.mono fun e w' he => by
    obtain ⟨v, rfl, hv⟩ := he
    exact seg_SendBuf_Unsent.RV_elim hv
def seg_RecvBuf_Avail.B0 (b : Option Addr) (w : World)   (R : Int → World → Prop) : Prop :=
  Pn b fun a =>
  LdI .i64 (a.add 17) w fun x6 =>
  R x6 w
theorem seg_RecvBuf_Avail.B0_eq (b : Option Addr) (w : World)   (R : Int → World → Prop)  :
    (
  Pn b fun a =>
  LdI .i64 (a.add 17) w fun x6 =>
  R x6 w) = kstep Tryz.prog 7 Tryz.f57.results.toList (Tryz.f57.body.getD .skip) (seg_RecvBuf_Avail.RV R) (kvc Tryz.prog 7 Tryz.f57.results.toList (Tryz.f57.body.getD .skip) (seg_RecvBuf_Avail.RV R) [] 2000) [(0, [])] [(0, .pointer b)] w := by kernel_rfl
theorem seg_RecvBuf_Avail.B0_sound {R : Int → World → Prop}  (b : Option Addr) (w : World) (h : seg_RecvBuf_Avail.B0 b w   R) :
    KW Tryz.prog 57 7 (seg_RecvBuf_Avail.RV R) ([(0, [])].map (toItem (Tryz.f57.body.getD .skip))) [(0, .pointer b)] w := by
  exact block_spec Tryz.func57 Tryz.mixed stops_nil (Eq.mp (seg_RecvBuf_Avail.B0_eq b w   R ) h)
theorem seg_RecvBuf_Avail.sound (b : Option Addr) (w : World) (R : Int → World → Prop) (h : seg_RecvBuf_Avail.B0 b w R) : seg_RecvBuf_Avail.Call b w R := by
  have hc := calls_of_block (args := #[.pointer b]) Tryz.func57 (body := (Tryz.f57.body.getD .skip)) (by kernel_rfl) (by kernel_rfl) (args_slot _) (seg_RecvBuf_Avail.B0_sound b w h)
  exact hc.mono fun e w' he => by
    obtain ⟨v, rfl, hv⟩ := he
    exact seg_RecvBuf_Avail.RV_elim hv
def seg_RecvBuf_Held.L1b (n m0 : Int) (w : World)  (N1 : Int → Int → World → Prop) (R : Int → World → Prop) : Prop :=
  Bm (m0 != (0 : Int)) (
    N1 (IntKind.i64.wrap (n + (1 : Int))) (IntKind.u16.wrap (BitVec.ofInt IntKind.u16.bits m0 &&& BitVec.ofInt IntKind.u16.bits (IntKind.u16.wrap (m0 - (1 : Int)))).toNat) w) (
    R n w)
theorem seg_RecvBuf_Held.L1b_eq (n m0 : Int) (w : World)  (N1 : Int → Int → World → Prop) (R : Int → World → Prop)  :
    (
  Bm (m0 != (0 : Int)) (
    N1 (IntKind.i64.wrap (n + (1 : Int))) (IntKind.u16.wrap (BitVec.ofInt IntKind.u16.bits m0 &&& BitVec.ofInt IntKind.u16.bits (IntKind.u16.wrap (m0 - (1 : Int)))).toNat) w) (
    R n w)) = kstep Tryz.prog 18 Tryz.f58.results.toList (Tryz.f58.body.getD .skip) (seg_RecvBuf_Held.RV R) (kvc Tryz.prog 18 Tryz.f58.results.toList (Tryz.f58.body.getD .skip) (seg_RecvBuf_Held.RV R) [([(0, [1, 1, 0, 1, 0, 0]), (2, [1, 1, 0, 1, 0, 0]), (1, [0]), (0, [1, 1, 1])], fun σ w => dI .i64 (slotOf σ 3) fun n_ => dI .u16 (slotOf σ 4) fun m0_ => N1 n_ m0_ w)] 2000) [(0, [1, 1, 0, 1, 0, 0]), (2, [1, 1, 0, 1, 0, 0]), (1, [0]), (0, [1, 1, 1])] [(3, .int .i64 n), (4, .int .u16 m0)] w := by kernel_rfl
theorem seg_RecvBuf_Held.L1b_sound {R : Int → World → Prop} {N1 : Int → Int → World → Prop} (hN1 : ∀ n m0 w, N1 n m0 w → KW Tryz.prog 58 18 (seg_RecvBuf_Held.RV R) ([(0, [1, 1, 0, 1, 0, 0]), (2, [1, 1, 0, 1, 0, 0]), (1, [0]), (0, [1, 1, 1])].map (toItem (Tryz.f58.body.getD .skip))) [(3, .int .i64 n), (4, .int .u16 m0)] w) (n m0 : Int) (w : World) (h : seg_RecvBuf_Held.L1b n m0 w  N1 R) :
    KW Tryz.prog 58 18 (seg_RecvBuf_Held.RV R) ([(0, [1, 1, 0, 1, 0, 0]), (2, [1, 1, 0, 1, 0, 0]), (1, [0]), (0, [1, 1, 1])].map (toItem (Tryz.f58.body.getD .skip))) [(3, .int .i64 n), (4, .int .u16 m0)] w := by
  exact block_spec Tryz.func58 Tryz.mixed (stops_cons (fun σ w h => by
      obtain ⟨n_, e0, h⟩ := dI_elim h
      obtain ⟨m0_, e1, h⟩ := dI_elim h
      exact (hN1 n_ m0_ w h).weaken (Sub.cons (Sub.cons (Sub.nil _) e1) e0)) stops_nil) (Eq.mp (seg_RecvBuf_Held.L1b_eq n m0 w  N1 R ) h)
def seg_RecvBuf_Held.L1 (n m0 : Int) (w : World)  (R : Int → World → Prop) : Prop :=
  ∃ (I : Nat → Int → Int → World → Prop) (m : Nat), I m n m0 w ∧ ∀ m n m0 w, I m n m0 w → seg_RecvBuf_Held.L1b n m0 w  (fun n' m0' w' => ∃ m', m' < m ∧ I m' n' m0' w') R
theorem seg_RecvBuf_Held.L1_sound {R : Int → World → Prop}  (n m0 : Int) (w : World) (h : seg_RecvBuf_Held.L1 n m0 w  R) :
    KW Tryz.prog 58 18 (seg_RecvBuf_Held.RV R) ([(0, [1, 1, 0, 1, 0, 0]), (2, [1, 1, 0, 1, 0, 0]), (1, [0]), (0, [1, 1, 1])].map (toItem (Tryz.f58.body.getD .skip))) [(3, .int .i64 n), (4, .int .u16 m0)] w := by
  obtain ⟨I, m, hBase, hr⟩ := h
  refine KW.loop (fun m σ w => ∃ (n m0 : Int), σ = [(3, .int .i64 n), (4, .int .u16 m0)] ∧ I m n m0 w) ?_ m _ w ⟨n, m0, rfl, hBase⟩
  rintro m ih σ w ⟨n, m0, rfl, hI⟩
  exact seg_RecvBuf_Held.L1b_sound  (N1 := fun n' m0' w' => ∃ m', m' < m ∧ I m' n' m0' w') (fun n' m0' w' hx => by obtain ⟨m', hlt, hI'⟩ := hx; exact ih m' hlt _ w' ⟨n', m0', rfl, hI'⟩) n m0 w (hr m n m0 w hI)
def seg_RecvBuf_Held.B0 (b : Option Addr) (w : World)   (R : Int → World → Prop) : Prop :=
  Pn b fun a =>
  LdI .u16 (a.add 18) w fun x8 =>
  seg_RecvBuf_Held.L1 (0 : Int) x8 w  R
theorem seg_RecvBuf_Held.B0_eq (b : Option Addr) (w : World)   (R : Int → World → Prop) (sL1 : Int → Int → World → Prop) :
    (
  Pn b fun a =>
  LdI .u16 (a.add 18) w fun x8 =>
  sL1 (0 : Int) x8 w) = kstep Tryz.prog 18 Tryz.f58.results.toList (Tryz.f58.body.getD .skip) (seg_RecvBuf_Held.RV R) (kvc Tryz.prog 18 Tryz.f58.results.toList (Tryz.f58.body.getD .skip) (seg_RecvBuf_Held.RV R) [([(0, [1, 1, 0, 1, 0, 0]), (2, [1, 1, 0, 1, 0, 0]), (1, [0]), (0, [1, 1, 1])], fun σ w => dI .i64 (slotOf σ 3) fun n_ => dI .u16 (slotOf σ 4) fun m0_ => sL1 n_ m0_ w)] 2000) [(0, [])] [(0, .pointer b)] w := by kernel_rfl
theorem seg_RecvBuf_Held.B0_sound {R : Int → World → Prop}  (b : Option Addr) (w : World) (h : seg_RecvBuf_Held.B0 b w   R) :
    KW Tryz.prog 58 18 (seg_RecvBuf_Held.RV R) ([(0, [])].map (toItem (Tryz.f58.body.getD .skip))) [(0, .pointer b)] w := by
  exact block_spec Tryz.func58 Tryz.mixed (stops_cons (fun σ w h => by
      obtain ⟨n_, e0, h⟩ := dI_elim h
      obtain ⟨m0_, e1, h⟩ := dI_elim h
      exact (seg_RecvBuf_Held.L1_sound  n_ m0_ w h).weaken (Sub.cons (Sub.cons (Sub.nil _) e1) e0)) stops_nil) (Eq.mp (seg_RecvBuf_Held.B0_eq b w   R (fun n_ m0_ w => seg_RecvBuf_Held.L1 n_ m0_ w  R)) h)
theorem seg_RecvBuf_Held.sound (b : Option Addr) (w : World) (R : Int → World → Prop) (h : seg_RecvBuf_Held.B0 b w R) : seg_RecvBuf_Held.Call b w R := by
  have hc := calls_of_block (args := #[.pointer b]) Tryz.func58 (body := (Tryz.f58.body.getD .skip)) (by kernel_rfl) (by kernel_rfl) (args_slot _) (seg_RecvBuf_Held.B0_sound b w h)
  exact hc.mono fun e w' he => by
    obtain ⟨v, rfl, hv⟩ := he
    exact seg_RecvBuf_Held.RV_elim hv
def connm_Conn_out.B2 (c : Option Addr) (t25 : Bool) (w : World)   (R : Int → World → Prop) : Prop :=
  Bm t25 (
    Pn c fun a =>
    LdI .i64 (a.add 9) w fun x29 =>
    R (IntKind.i64.wrap (x29 + (1 : Int))) w) (
    Pn c fun a_1 =>
    LdI .i64 (a_1.add 9) w fun x34 =>
    R x34 w)
theorem connm_Conn_out.B2_eq (c : Option Addr) (t25 : Bool) (w : World)   (R : Int → World → Prop)  :
    (
  Bm t25 (
    Pn c fun a =>
    LdI .i64 (a.add 9) w fun x29 =>
    R (IntKind.i64.wrap (x29 + (1 : Int))) w) (
    Pn c fun a_1 =>
    LdI .i64 (a_1.add 9) w fun x34 =>
    R x34 w)) = kstep Tryz.prog 35 Tryz.f59.results.toList (Tryz.f59.body.getD .skip) (connm_Conn_out.RV R) (kvc Tryz.prog 35 Tryz.f59.results.toList (Tryz.f59.body.getD .skip) (connm_Conn_out.RV R) [] 2000) [(0, [1, 1, 0, 1]), (0, [1, 1, 1])] [(0, .pointer c), (25, .bool t25)] w := by kernel_rfl
theorem connm_Conn_out.B2_sound {R : Int → World → Prop}  (c : Option Addr) (t25 : Bool) (w : World) (h : connm_Conn_out.B2 c t25 w   R) :
    KW Tryz.prog 59 35 (connm_Conn_out.RV R) ([(0, [1, 1, 0, 1]), (0, [1, 1, 1])].map (toItem (Tryz.f59.body.getD .skip))) [(0, .pointer c), (25, .bool t25)] w := by
  exact block_spec Tryz.func59 Tryz.mixed stops_nil (Eq.mp (connm_Conn_out.B2_eq c t25 w   R ) h)
def connm_Conn_out.B1 (c : Option Addr) (t14 : Bool) (w : World)   (R : Int → World → Prop) : Prop :=
  Bm t14 (
    R (1 : Int) w) (
    Pn c fun a =>
    LdB (a.add 3) w fun x18 =>
    Bm x18 (
      Pn c fun a_1 =>
      LdB (a_1.add 4) w fun x23 =>
      connm_Conn_out.B2 c (!x23) w  R) (
      connm_Conn_out.B2 c false w  R))
theorem connm_Conn_out.B1_eq (c : Option Addr) (t14 : Bool) (w : World)   (R : Int → World → Prop) (sB2 : Option Addr → Bool → World → Prop) :
    (
  Bm t14 (
    R (1 : Int) w) (
    Pn c fun a =>
    LdB (a.add 3) w fun x18 =>
    Bm x18 (
      Pn c fun a_1 =>
      LdB (a_1.add 4) w fun x23 =>
      sB2 c (!x23) w) (
      sB2 c false w))) = kstep Tryz.prog 35 Tryz.f59.results.toList (Tryz.f59.body.getD .skip) (connm_Conn_out.RV R) (kvc Tryz.prog 35 Tryz.f59.results.toList (Tryz.f59.body.getD .skip) (connm_Conn_out.RV R) [([(0, [1, 1, 0, 1]), (0, [1, 1, 1])], fun σ w => dP (slotOf σ 0) fun c_ => dB (slotOf σ 25) fun t25_ => sB2 c_ t25_ w)] 2000) [(0, [1, 0, 1]), (0, [1, 1])] [(0, .pointer c), (14, .bool t14)] w := by kernel_rfl
theorem connm_Conn_out.B1_sound {R : Int → World → Prop}  (c : Option Addr) (t14 : Bool) (w : World) (h : connm_Conn_out.B1 c t14 w   R) :
    KW Tryz.prog 59 35 (connm_Conn_out.RV R) ([(0, [1, 0, 1]), (0, [1, 1])].map (toItem (Tryz.f59.body.getD .skip))) [(0, .pointer c), (14, .bool t14)] w := by
  exact block_spec Tryz.func59 Tryz.mixed (stops_cons (fun σ w h => by
      obtain ⟨c_, e0, h⟩ := dP_elim h
      obtain ⟨t25_, e1, h⟩ := dB_elim h
      exact (connm_Conn_out.B2_sound  c_ t25_ w h).weaken (Sub.cons (Sub.cons (Sub.nil _) e1) e0)) stops_nil) (Eq.mp (connm_Conn_out.B1_eq c t14 w   R (fun c_ t25_ w => connm_Conn_out.B2 c_ t25_ w  R)) h)
def connm_Conn_out.B0 (c : Option Addr) (w : World)   (R : Int → World → Prop) : Prop :=
  Pn c fun a =>
  LdI .i64 a w fun x6 =>
  Bm (x6 == (1 : Int)) (
    connm_Conn_out.B1 c true w  R) (
    Pn c fun a_1 =>
    LdI .i64 a_1 w fun x12 =>
    connm_Conn_out.B1 c (x12 == (2 : Int)) w  R)
theorem connm_Conn_out.B0_eq (c : Option Addr) (w : World)   (R : Int → World → Prop) (sB1 : Option Addr → Bool → World → Prop) :
    (
  Pn c fun a =>
  LdI .i64 a w fun x6 =>
  Bm (x6 == (1 : Int)) (
    sB1 c true w) (
    Pn c fun a_1 =>
    LdI .i64 a_1 w fun x12 =>
    sB1 c (x12 == (2 : Int)) w)) = kstep Tryz.prog 35 Tryz.f59.results.toList (Tryz.f59.body.getD .skip) (connm_Conn_out.RV R) (kvc Tryz.prog 35 Tryz.f59.results.toList (Tryz.f59.body.getD .skip) (connm_Conn_out.RV R) [([(0, [1, 0, 1]), (0, [1, 1])], fun σ w => dP (slotOf σ 0) fun c_ => dB (slotOf σ 14) fun t14_ => sB1 c_ t14_ w)] 2000) [(0, [])] [(0, .pointer c)] w := by kernel_rfl
theorem connm_Conn_out.B0_sound {R : Int → World → Prop}  (c : Option Addr) (w : World) (h : connm_Conn_out.B0 c w   R) :
    KW Tryz.prog 59 35 (connm_Conn_out.RV R) ([(0, [])].map (toItem (Tryz.f59.body.getD .skip))) [(0, .pointer c)] w := by
  exact block_spec Tryz.func59 Tryz.mixed (stops_cons (fun σ w h => by
      obtain ⟨c_, e0, h⟩ := dP_elim h
      obtain ⟨t14_, e1, h⟩ := dB_elim h
      exact (connm_Conn_out.B1_sound  c_ t14_ w h).weaken (Sub.cons (Sub.cons (Sub.nil _) e1) e0)) stops_nil) (Eq.mp (connm_Conn_out.B0_eq c w   R (fun c_ t14_ w => connm_Conn_out.B1 c_ t14_ w  R)) h)
theorem connm_Conn_out.sound (c : Option Addr) (w : World) (R : Int → World → Prop) (h : connm_Conn_out.B0 c w R) : connm_Conn_out.Call c w R := by
  have hc := calls_of_block (args := #[.pointer c]) Tryz.func59 (body := (Tryz.f59.body.getD .skip)) (by kernel_rfl) (by kernel_rfl) (args_slot _) (connm_Conn_out.B0_sound c w h)
  exact hc.mono fun e w' he => by
    obtain ⟨v, rfl, hv⟩ := he
    exact connm_Conn_out.RV_elim hv
end Go.Proofs.Qxb6500422aGreat
