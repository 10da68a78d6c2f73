import Derived.Test.Qxb6500424aGreatSig
set_option maxRecDepth 100000
set_option linter.unusedVariables false
open Go.Vc
namespace Go.Proofs.Qxb6500424aGreat
def host_Host_Close.B0 (h0 : Option Addr) (sd : Int) (w : World)   (R : Option Addr → Nat → Nat → Int → World → Prop) : Prop :=
  host_Host_listener.Call h0 sd w fun r14 w1 =>
  Bm r14 (
    host_Host_shut.Call h0 sd w1 fun r17_b r17_l r17_c w2 =>
    R r17_b r17_l r17_c (0 : Int) w2) (
    host_Host_ours.Call h0 sd w1 fun r22_0_0 r22_0_1 r22_0_2 r22_0_3 r22_0_4 r22_0_5 r22_0_6 r22_0_7 r22_1 w3 =>
    New (.cells #[.int .i64 (0 : Int), .int .i64 (0 : Int), .int .i64 (0 : Int), .int .i64 (0 : Int), .int .i64 (0 : Int), .int .i64 (0 : Int), .int .i64 (0 : Int), .bool false] 66) w3 fun en_ w4 =>
    Sts [.int .i64 r22_0_0, .int .i64 r22_0_1, .int .i64 r22_0_2, .int .i64 r22_0_3, .int .i64 r22_0_4, .int .i64 r22_0_5, .int .i64 r22_0_6, .bool r22_0_7] ⟨en_, 0, none⟩ 0 w4 fun w5 =>
    Bm (!r22_1) (
      R none 0 0 (21 : Int) w5) (
      LdI .i64 ⟨en_, 5, none⟩ w5.drew fun x30 =>
      Pn h0 fun a =>
      (0 ≤ x30 ∧ x30 < ((4 : Nat) : Int)) ∧
      LdP (Addr.add (a.add 13) (x30.toNat * 1)) w5.drew fun x34 =>
      conn_Conn_Close.Call x34 w5.drew fun r35_0_b r35_0_l r35_0_c r35_1 w6 =>
      Bm (r35_1 != (0 : Int)) (
        R none 0 0 r35_1 w6) (
        New (.cells #[] 81) w6 fun b42 w7 =>
        LdI .i64 ⟨en_, 0, none⟩ w7 fun x43_0 =>
        LdI .i64 ⟨en_, 1, none⟩ w7 fun x43_1 =>
        LdI .i64 ⟨en_, 2, none⟩ w7 fun x43_2 =>
        LdI .i64 ⟨en_, 3, none⟩ w7 fun x43_3 =>
        LdI .i64 ⟨en_, 4, none⟩ w7 fun x43_4 =>
        LdI .i64 ⟨en_, 5, none⟩ w7 fun x43_5 =>
        LdI .i64 ⟨en_, 6, none⟩ w7 fun x43_6 =>
        LdB ⟨en_, 7, none⟩ w7 fun x43_7 =>
        host_Host_emit.Call h0 (some ⟨b42, 0, none⟩) 0 0 x43_0 x43_1 x43_2 x43_3 x43_4 x43_5 x43_6 x43_7 r35_0_b r35_0_l r35_0_c w7 fun r45_b r45_l r45_c w8 =>
        R r45_b r45_l r45_c (0 : Int) w8)))
theorem host_Host_Close.B0_eq (h0 : Option Addr) (sd : Int) (w : World)   (R : Option Addr → Nat → Nat → Int → World → Prop)  :
    (
  host_Host_listener.Call h0 sd w fun r14 w1 =>
  Bm r14 (
    host_Host_shut.Call h0 sd w1 fun r17_b r17_l r17_c w2 =>
    R r17_b r17_l r17_c (0 : Int) w2) (
    host_Host_ours.Call h0 sd w1 fun r22_0_0 r22_0_1 r22_0_2 r22_0_3 r22_0_4 r22_0_5 r22_0_6 r22_0_7 r22_1 w3 =>
    New (.cells #[.int .i64 (0 : Int), .int .i64 (0 : Int), .int .i64 (0 : Int), .int .i64 (0 : Int), .int .i64 (0 : Int), .int .i64 (0 : Int), .int .i64 (0 : Int), .bool false] 66) w3 fun en_ w4 =>
    Sts [.int .i64 r22_0_0, .int .i64 r22_0_1, .int .i64 r22_0_2, .int .i64 r22_0_3, .int .i64 r22_0_4, .int .i64 r22_0_5, .int .i64 r22_0_6, .bool r22_0_7] ⟨en_, 0, none⟩ 0 w4 fun w5 =>
    Bm (!r22_1) (
      R none 0 0 (21 : Int) w5) (
      LdI .i64 ⟨en_, 5, none⟩ w5.drew fun x30 =>
      Pn h0 fun a =>
      (0 ≤ x30 ∧ x30 < ((4 : Nat) : Int)) ∧
      LdP (Addr.add (a.add 13) (x30.toNat * 1)) w5.drew fun x34 =>
      conn_Conn_Close.Call x34 w5.drew fun r35_0_b r35_0_l r35_0_c r35_1 w6 =>
      Bm (r35_1 != (0 : Int)) (
        R none 0 0 r35_1 w6) (
        New (.cells #[] 81) w6 fun b42 w7 =>
        LdI .i64 ⟨en_, 0, none⟩ w7 fun x43_0 =>
        LdI .i64 ⟨en_, 1, none⟩ w7 fun x43_1 =>
        LdI .i64 ⟨en_, 2, none⟩ w7 fun x43_2 =>
        LdI .i64 ⟨en_, 3, none⟩ w7 fun x43_3 =>
        LdI .i64 ⟨en_, 4, none⟩ w7 fun x43_4 =>
        LdI .i64 ⟨en_, 5, none⟩ w7 fun x43_5 =>
        LdI .i64 ⟨en_, 6, none⟩ w7 fun x43_6 =>
        LdB ⟨en_, 7, none⟩ w7 fun x43_7 =>
        host_Host_emit.Call h0 (some ⟨b42, 0, none⟩) 0 0 x43_0 x43_1 x43_2 x43_3 x43_4 x43_5 x43_6 x43_7 r35_0_b r35_0_l r35_0_c w7 fun r45_b r45_l r45_c w8 =>
        R r45_b r45_l r45_c (0 : Int) w8)))) = kstep Tryz.prog 47 Tryz.f103.results.toList (Tryz.f103.body.getD .skip) (host_Host_Close.RV R) (kvc Tryz.prog 47 Tryz.f103.results.toList (Tryz.f103.body.getD .skip) (host_Host_Close.RV R) [] 2000) [(0, [])] [(0, .pointer h0), (1, .int .i64 sd)] w := by kernel_rfl
theorem host_Host_Close.B0_sound {R : Option Addr → Nat → Nat → Int → World → Prop}  (h0 : Option Addr) (sd : Int) (w : World) (h : host_Host_Close.B0 h0 sd w   R) :
    KW Tryz.prog 103 47 (host_Host_Close.RV R) ([(0, [])].map (toItem (Tryz.f103.body.getD .skip))) [(0, .pointer h0), (1, .int .i64 sd)] w := by
  exact block_spec Tryz.func103 Tryz.mixed stops_nil (Eq.mp (host_Host_Close.B0_eq h0 sd w   R ) h)
theorem host_Host_Close.sound (h0 : Option Addr) (sd : Int) (w : World) (R : Option Addr → Nat → Nat → Int → World → Prop) (h : host_Host_Close.B0 h0 sd w R) : host_Host_Close.Call h0 sd w R := by
  have hc := calls_of_block (args := #[.pointer h0, .int .i64 sd]) Tryz.func103 (body := (Tryz.f103.body.getD .skip)) (by kernel_rfl) (by kernel_rfl) (args_slot _) (host_Host_Close.B0_sound h0 sd w h)
  exact hc.mono fun e w' he => by
    obtain ⟨v, rfl, hv⟩ := he
    exact host_Host_Close.RV_elim hv
def hostm_Net_ClosedBy.B0 (n : Option Addr) (i : Int) (w : World)   (R : Bool → World → Prop) : Prop :=
  hostm_Net_has.Call n i w fun r7 w1 =>
  Bm (!r7) (
    R false w1) (
    Pn n fun a =>
    LdL a w1 fun x12_b x12_l x12_c =>
    Pn x12_b fun a_1 =>
    (0 ≤ i ∧ i < ((x12_l : Nat) : Int)) ∧
    Sts [.bool true] ((Addr.add a_1 (i.toNat * 16)).add 12) 0 w1 fun w2 =>
    R true w2)
theorem hostm_Net_ClosedBy.B0_eq (n : Option Addr) (i : Int) (w : World)   (R : Bool → World → Prop)  :
    (
  hostm_Net_has.Call n i w fun r7 w1 =>
  Bm (!r7) (
    R false w1) (
    Pn n fun a =>
    LdL a w1 fun x12_b x12_l x12_c =>
    Pn x12_b fun a_1 =>
    (0 ≤ i ∧ i < ((x12_l : Nat) : Int)) ∧
    Sts [.bool true] ((Addr.add a_1 (i.toNat * 16)).add 12) 0 w1 fun w2 =>
    R true w2)) = kstep Tryz.prog 16 Tryz.f104.results.toList (Tryz.f104.body.getD .skip) (hostm_Net_ClosedBy.RV R) (kvc Tryz.prog 16 Tryz.f104.results.toList (Tryz.f104.body.getD .skip) (hostm_Net_ClosedBy.RV R) [] 2000) [(0, [])] [(0, .pointer n), (1, .int .i64 i)] w := by kernel_rfl
theorem hostm_Net_ClosedBy.B0_sound {R : Bool → World → Prop}  (n : Option Addr) (i : Int) (w : World) (h : hostm_Net_ClosedBy.B0 n i w   R) :
    KW Tryz.prog 104 16 (hostm_Net_ClosedBy.RV R) ([(0, [])].map (toItem (Tryz.f104.body.getD .skip))) [(0, .pointer n), (1, .int .i64 i)] w := by
  exact block_spec Tryz.func104 Tryz.mixed stops_nil (Eq.mp (hostm_Net_ClosedBy.B0_eq n i w   R ) h)
theorem hostm_Net_ClosedBy.sound (n : Option Addr) (i : Int) (w : World) (R : Bool → World → Prop) (h : hostm_Net_ClosedBy.B0 n i w R) : hostm_Net_ClosedBy.Call n i w R := by
  have hc := calls_of_block (args := #[.pointer n, .int .i64 i]) Tryz.func104 (body := (Tryz.f104.body.getD .skip)) (by kernel_rfl) (by kernel_rfl) (args_slot _) (hostm_Net_ClosedBy.B0_sound n i w h)
  exact hc.mono fun e w' he => by
    obtain ⟨v, rfl, hv⟩ := he
    exact hostm_Net_ClosedBy.RV_elim hv
def sock_Table_find.B1 (t : Option Addr) (sd i : Int) (t28 : Bool) (w : World) (N1 : Option Addr → Int → Int → World → Prop)  (R : Int → World → Prop) : Prop :=
  Bm t28 (
    R i w) (
    N1 t sd (IntKind.i64.wrap (i + (1 : Int))) w)
theorem sock_Table_find.B1_eq (t : Option Addr) (sd i : Int) (t28 : Bool) (w : World) (N1 : Option Addr → Int → Int → World → Prop)  (R : Int → World → Prop)  :
    (
  Bm t28 (
    R i w) (
    N1 t sd (IntKind.i64.wrap (i + (1 : Int))) w)) = kstep Tryz.prog 30 Tryz.f105.results.toList (Tryz.f105.body.getD .skip) (sock_Table_find.RV R) (kvc Tryz.prog 30 Tryz.f105.results.toList (Tryz.f105.body.getD .skip) (sock_Table_find.RV R) [([(0, [1, 0, 1, 0, 0]), (2, [1, 0, 1, 0, 0]), (1, [0]), (0, [1, 1])], fun σ w => dP (slotOf σ 0) fun t_ => dI .i64 (slotOf σ 1) fun sd_ => dI .i64 (slotOf σ 5) fun i_ => N1 t_ sd_ i_ w)] 2000) [(0, [1, 0, 1, 0, 0, 1, 0, 0, 1]), (1, [1]), (0, [1, 0, 1, 0, 0, 1, 1]), (2, [1, 0, 1, 0, 0]), (1, [0]), (0, [1, 1])] [(0, .pointer t), (1, .int .i64 sd), (5, .int .i64 i), (28, .bool t28)] w := by kernel_rfl
theorem sock_Table_find.B1_sound {R : Int → World → Prop} {N1 : Option Addr → Int → Int → World → Prop} (hN1 : ∀ t sd i w, N1 t sd i w → KW Tryz.prog 105 30 (sock_Table_find.RV R) ([(0, [1, 0, 1, 0, 0]), (2, [1, 0, 1, 0, 0]), (1, [0]), (0, [1, 1])].map (toItem (Tryz.f105.body.getD .skip))) [(0, .pointer t), (1, .int .i64 sd), (5, .int .i64 i)] w) (t : Option Addr) (sd i : Int) (t28 : Bool) (w : World) (h : sock_Table_find.B1 t sd i t28 w N1  R) :
    KW Tryz.prog 105 30 (sock_Table_find.RV R) ([(0, [1, 0, 1, 0, 0, 1, 0, 0, 1]), (1, [1]), (0, [1, 0, 1, 0, 0, 1, 1]), (2, [1, 0, 1, 0, 0]), (1, [0]), (0, [1, 1])].map (toItem (Tryz.f105.body.getD .skip))) [(0, .pointer t), (1, .int .i64 sd), (5, .int .i64 i), (28, .bool t28)] w := by
  exact block_spec Tryz.func105 Tryz.mixed (stops_cons (fun σ w h => by
      obtain ⟨t_, e0, h⟩ := dP_elim h
      obtain ⟨sd_, e1, h⟩ := dI_elim h
      obtain ⟨i_, e2, h⟩ := dI_elim h
      exact (hN1 t_ sd_ i_ w h).weaken (Sub.cons (Sub.cons (Sub.cons (Sub.nil _) e2) e1) e0)) stops_nil) (Eq.mp (sock_Table_find.B1_eq t sd i t28 w N1  R ) h)
def sock_Table_find.L1b (t : Option Addr) (sd i : Int) (w : World)  (N1 : Option Addr → Int → Int → World → Prop) (R : Int → World → Prop) : Prop :=
  Bm (decide (i < (6 : Int))) (
    Pn t fun a =>
    (0 ≤ i ∧ i < ((6 : Nat) : Int)) ∧
    LdB (Addr.add a (i.toNat * 15)) w fun x16 =>
    Bm x16 (
      Pn t fun a_1 =>
      (0 ≤ i ∧ i < ((6 : Nat) : Int)) ∧
      LdI .i64 ((Addr.add a_1 (i.toNat * 15)).add 1) w fun x25 =>
      sock_Table_find.B1 t sd i (x25 == sd) w N1 R) (
      sock_Table_find.B1 t sd i false w N1 R)) (
    R (-1 : Int) w)
theorem sock_Table_find.L1b_eq (t : Option Addr) (sd i : Int) (w : World)  (N1 : Option Addr → Int → Int → World → Prop) (R : Int → World → Prop) (sB1 : Option Addr → Int → Int → Bool → World → Prop) :
    (
  Bm (decide (i < (6 : Int))) (
    Pn t fun a =>
    (0 ≤ i ∧ i < ((6 : Nat) : Int)) ∧
    LdB (Addr.add a (i.toNat * 15)) w fun x16 =>
    Bm x16 (
      Pn t fun a_1 =>
      (0 ≤ i ∧ i < ((6 : Nat) : Int)) ∧
      LdI .i64 ((Addr.add a_1 (i.toNat * 15)).add 1) w fun x25 =>
      sB1 t sd i (x25 == sd) w) (
      sB1 t sd i false w)) (
    R (-1 : Int) w)) = kstep Tryz.prog 30 Tryz.f105.results.toList (Tryz.f105.body.getD .skip) (sock_Table_find.RV R) (kvc Tryz.prog 30 Tryz.f105.results.toList (Tryz.f105.body.getD .skip) (sock_Table_find.RV R) [([(0, [1, 0, 1, 0, 0, 1, 0, 0, 1]), (1, [1]), (0, [1, 0, 1, 0, 0, 1, 1]), (2, [1, 0, 1, 0, 0]), (1, [0]), (0, [1, 1])], fun σ w => dP (slotOf σ 0) fun t_ => dI .i64 (slotOf σ 1) fun sd_ => dI .i64 (slotOf σ 5) fun i_ => dB (slotOf σ 28) fun t28_ => sB1 t_ sd_ i_ t28_ w)] 2000) [(0, [1, 0, 1, 0, 0]), (2, [1, 0, 1, 0, 0]), (1, [0]), (0, [1, 1])] [(0, .pointer t), (1, .int .i64 sd), (5, .int .i64 i)] w := by kernel_rfl
theorem sock_Table_find.L1b_sound {R : Int → World → Prop} {N1 : Option Addr → Int → Int → World → Prop} (hN1 : ∀ t sd i w, N1 t sd i w → KW Tryz.prog 105 30 (sock_Table_find.RV R) ([(0, [1, 0, 1, 0, 0]), (2, [1, 0, 1, 0, 0]), (1, [0]), (0, [1, 1])].map (toItem (Tryz.f105.body.getD .skip))) [(0, .pointer t), (1, .int .i64 sd), (5, .int .i64 i)] w) (t : Option Addr) (sd i : Int) (w : World) (h : sock_Table_find.L1b t sd i w  N1 R) :
    KW Tryz.prog 105 30 (sock_Table_find.RV R) ([(0, [1, 0, 1, 0, 0]), (2, [1, 0, 1, 0, 0]), (1, [0]), (0, [1, 1])].map (toItem (Tryz.f105.body.getD .skip))) [(0, .pointer t), (1, .int .i64 sd), (5, .int .i64 i)] w := by
  exact block_spec Tryz.func105 Tryz.mixed (stops_cons (fun σ w h => by
      obtain ⟨t_, e0, h⟩ := dP_elim h
      obtain ⟨sd_, e1, h⟩ := dI_elim h
      obtain ⟨i_, e2, h⟩ := dI_elim h
      obtain ⟨t28_, e3, h⟩ := dB_elim h
      exact (sock_Table_find.B1_sound hN1 t_ sd_ i_ t28_ w h).weaken (Sub.cons (Sub.cons (Sub.cons (Sub.cons (Sub.nil _) e3) e2) e1) e0)) stops_nil) (Eq.mp (sock_Table_find.L1b_eq t sd i w  N1 R (fun t_ sd_ i_ t28_ w => sock_Table_find.B1 t_ sd_ i_ t28_ w N1 R)) h)
def sock_Table_find.L1 (t : Option Addr) (sd i : Int) (w : World)  (R : Int → World → Prop) : Prop :=
  ∃ (I : Nat → Option Addr → Int → Int → World → Prop) (m : Nat), I m t sd i w ∧ ∀ m t sd i w, I m t sd i w → sock_Table_find.L1b t sd i w  (fun t' sd' i' w' => ∃ m', m' < m ∧ I m' t' sd' i' w') R
theorem sock_Table_find.L1_sound {R : Int → World → Prop}  (t : Option Addr) (sd i : Int) (w : World) (h : sock_Table_find.L1 t sd i w  R) :
    KW Tryz.prog 105 30 (sock_Table_find.RV R) ([(0, [1, 0, 1, 0, 0]), (2, [1, 0, 1, 0, 0]), (1, [0]), (0, [1, 1])].map (toItem (Tryz.f105.body.getD .skip))) [(0, .pointer t), (1, .int .i64 sd), (5, .int .i64 i)] w := by
  obtain ⟨I, m, hBase, hr⟩ := h
  refine KW.loop (fun m σ w => ∃ (t : Option Addr) (sd i : Int), σ = [(0, .pointer t), (1, .int .i64 sd), (5, .int .i64 i)] ∧ I m t sd i w) ?_ m _ w ⟨t, sd, i, rfl, hBase⟩
  rintro m ih σ w ⟨t, sd, i, rfl, hI⟩
  exact sock_Table_find.L1b_sound  (N1 := fun t' sd' i' w' => ∃ m', m' < m ∧ I m' t' sd' i' w') (fun t' sd' i' w' hx => by obtain ⟨m', hlt, hI'⟩ := hx; exact ih m' hlt _ w' ⟨t', sd', i', rfl, hI'⟩) t sd i w (hr m t sd i w hI)
def sock_Table_find.B0 (t : Option Addr) (sd : Int) (w : World)   (R : Int → World → Prop) : Prop :=
  sock_Table_find.L1 t sd (0 : Int) w  R
theorem sock_Table_find.B0_eq (t : Option Addr) (sd : Int) (w : World)   (R : Int → World → Prop) (sL1 : Option Addr → Int → Int → World → Prop) :
    (
  sL1 t sd (0 : Int) w) = kstep Tryz.prog 30 Tryz.f105.results.toList (Tryz.f105.body.getD .skip) (sock_Table_find.RV R) (kvc Tryz.prog 30 Tryz.f105.results.toList (Tryz.f105.body.getD .skip) (sock_Table_find.RV R) [([(0, [1, 0, 1, 0, 0]), (2, [1, 0, 1, 0, 0]), (1, [0]), (0, [1, 1])], fun σ w => dP (slotOf σ 0) fun t_ => dI .i64 (slotOf σ 1) fun sd_ => dI .i64 (slotOf σ 5) fun i_ => sL1 t_ sd_ i_ w)] 2000) [(0, [])] [(0, .pointer t), (1, .int .i64 sd)] w := by kernel_rfl
theorem sock_Table_find.B0_sound {R : Int → World → Prop}  (t : Option Addr) (sd : Int) (w : World) (h : sock_Table_find.B0 t sd w   R) :
    KW Tryz.prog 105 30 (sock_Table_find.RV R) ([(0, [])].map (toItem (Tryz.f105.body.getD .skip))) [(0, .pointer t), (1, .int .i64 sd)] w := by
  exact block_spec Tryz.func105 Tryz.mixed (stops_cons (fun σ w h => by
      obtain ⟨t_, e0, h⟩ := dP_elim h
      obtain ⟨sd_, e1, h⟩ := dI_elim h
      obtain ⟨i_, e2, h⟩ := dI_elim h
      exact (sock_Table_find.L1_sound  t_ sd_ i_ w h).weaken (Sub.cons (Sub.cons (Sub.cons (Sub.nil _) e2) e1) e0)) stops_nil) (Eq.mp (sock_Table_find.B0_eq t sd w   R (fun t_ sd_ i_ w => sock_Table_find.L1 t_ sd_ i_ w  R)) h)
theorem sock_Table_find.sound (t : Option Addr) (sd : Int) (w : World) (R : Int → World → Prop) (h : sock_Table_find.B0 t sd w R) : sock_Table_find.Call t sd w R := by
  have hc := calls_of_block (args := #[.pointer t, .int .i64 sd]) Tryz.func105 (body := (Tryz.f105.body.getD .skip)) (by kernel_rfl) (by kernel_rfl) (args_slot _) (sock_Table_find.B0_sound t sd w h)
  exact hc.mono fun e w' he => by
    obtain ⟨v, rfl, hv⟩ := he
    exact sock_Table_find.RV_elim hv
def conn_Conn_sndUna.B0 (c : Option Addr) (w : World)   (R : Int → World → Prop) : Prop :=
  Pn c fun a =>
  LdP a w fun x7 =>
  seg_SendBuf_Una.Call x7 w fun r8 w1 =>
  Pn c fun a_1 =>
  LdB (a_1.add 6) w1 fun x12 =>
  Bm x12 (
    api_SeqAdd.Call r8 (1 : Int) w1 fun r14 w2 =>
    R r14 w2) (
    R r8 w1)
theorem conn_Conn_sndUna.B0_eq (c : Option Addr) (w : World)   (R : Int → World → Prop)  :
    (
  Pn c fun a =>
  LdP a w fun x7 =>
  seg_SendBuf_Una.Call x7 w fun r8 w1 =>
  Pn c fun a_1 =>
  LdB (a_1.add 6) w1 fun x12 =>
  Bm x12 (
    api_SeqAdd.Call r8 (1 : Int) w1 fun r14 w2 =>
    R r14 w2) (
    R r8 w1)) = kstep Tryz.prog 16 Tryz.f106.results.toList (Tryz.f106.body.getD .skip) (conn_Conn_sndUna.RV R) (kvc Tryz.prog 16 Tryz.f106.results.toList (Tryz.f106.body.getD .skip) (conn_Conn_sndUna.RV R) [] 2000) [(0, [])] [(0, .pointer c)] w := by kernel_rfl
theorem conn_Conn_sndUna.B0_sound {R : Int → World → Prop}  (c : Option Addr) (w : World) (h : conn_Conn_sndUna.B0 c w   R) :
    KW Tryz.prog 106 16 (conn_Conn_sndUna.RV R) ([(0, [])].map (toItem (Tryz.f106.body.getD .skip))) [(0, .pointer c)] w := by
  exact block_spec Tryz.func106 Tryz.mixed stops_nil (Eq.mp (conn_Conn_sndUna.B0_eq c w   R ) h)
theorem conn_Conn_sndUna.sound (c : Option Addr) (w : World) (R : Int → World → Prop) (h : conn_Conn_sndUna.B0 c w R) : conn_Conn_sndUna.Call c w R := by
  have hc := calls_of_block (args := #[.pointer c]) Tryz.func106 (body := (Tryz.f106.body.getD .skip)) (by kernel_rfl) (by kernel_rfl) (args_slot _) (conn_Conn_sndUna.B0_sound c w h)
  exact hc.mono fun e w' he => by
    obtain ⟨v, rfl, hv⟩ := he
    exact conn_Conn_sndUna.RV_elim hv
def conn_Conn_sndNxt.B0 (c : Option Addr) (w : World)   (R : Int → World → Prop) : Prop :=
  conn_Conn_sndUna.Call c w fun r6 w1 =>
  conn_Conn_flying.Call c w1 fun r8 w2 =>
  api_SeqAdd.Call r6 r8 w2 fun r11 w3 =>
  R r11 w3
theorem conn_Conn_sndNxt.B0_eq (c : Option Addr) (w : World)   (R : Int → World → Prop)  :
    (
  conn_Conn_sndUna.Call c w fun r6 w1 =>
  conn_Conn_flying.Call c w1 fun r8 w2 =>
  api_SeqAdd.Call r6 r8 w2 fun r11 w3 =>
  R r11 w3) = kstep Tryz.prog 12 Tryz.f107.results.toList (Tryz.f107.body.getD .skip) (conn_Conn_sndNxt.RV R) (kvc Tryz.prog 12 Tryz.f107.results.toList (Tryz.f107.body.getD .skip) (conn_Conn_sndNxt.RV R) [] 2000) [(0, [])] [(0, .pointer c)] w := by kernel_rfl
theorem conn_Conn_sndNxt.B0_sound {R : Int → World → Prop}  (c : Option Addr) (w : World) (h : conn_Conn_sndNxt.B0 c w   R) :
    KW Tryz.prog 107 12 (conn_Conn_sndNxt.RV R) ([(0, [])].map (toItem (Tryz.f107.body.getD .skip))) [(0, .pointer c)] w := by
  exact block_spec Tryz.func107 Tryz.mixed stops_nil (Eq.mp (conn_Conn_sndNxt.B0_eq c w   R ) h)
theorem conn_Conn_sndNxt.sound (c : Option Addr) (w : World) (R : Int → World → Prop) (h : conn_Conn_sndNxt.B0 c w R) : conn_Conn_sndNxt.Call c w R := by
  have hc := calls_of_block (args := #[.pointer c]) Tryz.func107 (body := (Tryz.f107.body.getD .skip)) (by kernel_rfl) (by kernel_rfl) (args_slot _) (conn_Conn_sndNxt.B0_sound c w h)
  exact hc.mono fun e w' he => by
    obtain ⟨v, rfl, hv⟩ := he
    exact conn_Conn_sndNxt.RV_elim hv
def conn_Conn_rcvNxt.B0 (c : Option Addr) (w : World)   (R : Int → World → Prop) : Prop :=
  Pn c fun a =>
  LdP (a.add 1) w fun x7 =>
  seg_RecvBuf_Nxt.Call x7 w fun r8 w1 =>
  Pn c fun a_1 =>
  LdB (a_1.add 7) w1 fun x12 =>
  Bm x12 (
    api_SeqAdd.Call r8 (1 : Int) w1 fun r14 w2 =>
    R r14 w2) (
    R r8 w1)
theorem conn_Conn_rcvNxt.B0_eq (c : Option Addr) (w : World)   (R : Int → World → Prop)  :
    (
  Pn c fun a =>
  LdP (a.add 1) w fun x7 =>
  seg_RecvBuf_Nxt.Call x7 w fun r8 w1 =>
  Pn c fun a_1 =>
  LdB (a_1.add 7) w1 fun x12 =>
  Bm x12 (
    api_SeqAdd.Call r8 (1 : Int) w1 fun r14 w2 =>
    R r14 w2) (
    R r8 w1)) = kstep Tryz.prog 16 Tryz.f108.results.toList (Tryz.f108.body.getD .skip) (conn_Conn_rcvNxt.RV R) (kvc Tryz.prog 16 Tryz.f108.results.toList (Tryz.f108.body.getD .skip) (conn_Conn_rcvNxt.RV R) [] 2000) [(0, [])] [(0, .pointer c)] w := by kernel_rfl
theorem conn_Conn_rcvNxt.B0_sound {R : Int → World → Prop}  (c : Option Addr) (w : World) (h : conn_Conn_rcvNxt.B0 c w   R) :
    KW Tryz.prog 108 16 (conn_Conn_rcvNxt.RV R) ([(0, [])].map (toItem (Tryz.f108.body.getD .skip))) [(0, .pointer c)] w := by
  exact block_spec Tryz.func108 Tryz.mixed stops_nil (Eq.mp (conn_Conn_rcvNxt.B0_eq c w   R ) h)
theorem conn_Conn_rcvNxt.sound (c : Option Addr) (w : World) (R : Int → World → Prop) (h : conn_Conn_rcvNxt.B0 c w R) : conn_Conn_rcvNxt.Call c w R := by
  have hc := calls_of_block (args := #[.pointer c]) Tryz.func108 (body := (Tryz.f108.body.getD .skip)) (by kernel_rfl) (by kernel_rfl) (args_slot _) (conn_Conn_rcvNxt.B0_sound c w h)
  exact hc.mono fun e w' he => by
    obtain ⟨v, rfl, hv⟩ := he
    exact conn_Conn_rcvNxt.RV_elim hv
def seg_SendBuf_Len.B0 (b : Option Addr) (w : World)   (R : Int → World → Prop) : Prop :=
  Pn b fun a =>
  LdI .i64 (a.add 17) w fun x6 =>
  R x6 w
theorem seg_SendBuf_Len.B0_eq (b : Option Addr) (w : World)   (R : Int → World → Prop)  :
    (
  Pn b fun a =>
  LdI .i64 (a.add 17) w fun x6 =>
  R x6 w) = kstep Tryz.prog 7 Tryz.f109.results.toList (Tryz.f109.body.getD .skip) (seg_SendBuf_Len.RV R) (kvc Tryz.prog 7 Tryz.f109.results.toList (Tryz.f109.body.getD .skip) (seg_SendBuf_Len.RV R) [] 2000) [(0, [])] [(0, .pointer b)] w := by kernel_rfl
theorem seg_SendBuf_Len.B0_sound {R : Int → World → Prop}  (b : Option Addr) (w : World) (h : seg_SendBuf_Len.B0 b w   R) :
    KW Tryz.prog 109 7 (seg_SendBuf_Len.RV R) ([(0, [])].map (toItem (Tryz.f109.body.getD .skip))) [(0, .pointer b)] w := by
  exact block_spec Tryz.func109 Tryz.mixed stops_nil (Eq.mp (seg_SendBuf_Len.B0_eq b w   R ) h)
theorem seg_SendBuf_Len.sound (b : Option Addr) (w : World) (R : Int → World → Prop) (h : seg_SendBuf_Len.B0 b w R) : seg_SendBuf_Len.Call b w R := by
  have hc := calls_of_block (args := #[.pointer b]) Tryz.func109 (body := (Tryz.f109.body.getD .skip)) (by kernel_rfl) (by kernel_rfl) (args_slot _) (seg_SendBuf_Len.B0_sound b w h)
  exact hc.mono fun e w' he => by
    obtain ⟨v, rfl, hv⟩ := he
    exact seg_SendBuf_Len.RV_elim hv
def seg_SendBuf_Unsent.B0 (b : Option Addr) (w : World)   (R : Int → World → Prop) : Prop :=
  Pn b fun a =>
  LdI .i64 (a.add 17) w.drew fun x6 =>
  Pn b fun a_1 =>
  LdI .i64 (a_1.add 18) w.drew fun x10 =>
  R (IntKind.i64.wrap (x6 - x10)) w.drew
theorem seg_SendBuf_Unsent.B0_eq (b : Option Addr) (w : World)   (R : Int → World → Prop)  :
    (
  Pn b fun a =>
  LdI .i64 (a.add 17) w.drew fun x6 =>
  Pn b fun a_1 =>
  LdI .i64 (a_1.add 18) w.drew fun x10 =>
  R (IntKind.i64.wrap (x6 - x10)) w.drew) = kstep Tryz.prog 12 Tryz.f110.results.toList (Tryz.f110.body.getD .skip) (seg_SendBuf_Unsent.RV R) (kvc Tryz.prog 12 Tryz.f110.results.toList (Tryz.f110.body.getD .skip) (seg_SendBuf_Unsent.RV R) [] 2000) [(0, [])] [(0, .pointer b)] w := by kernel_rfl
theorem seg_SendBuf_Unsent.B0_sound {R : Int → World → Prop}  (b : Option Addr) (w : World) (h : seg_SendBuf_Unsent.B0 b w   R) :
    KW Tryz.prog 110 12 (seg_SendBuf_Unsent.RV R) ([(0, [])].map (toItem (Tryz.f110.body.getD .skip))) [(0, .pointer b)] w := by
  exact block_spec Tryz.func110 Tryz.mixed stops_nil (Eq.mp (seg_SendBuf_Unsent.B0_eq b w   R ) h)
theorem seg_SendBuf_Unsent.sound (b : Option Addr) (w : World) (R : Int → World → Prop) (h : seg_SendBuf_Unsent.B0 b w R) : seg_SendBuf_Unsent.Call b w R := by
  have hc := calls_of_block (args := #[.pointer b]) Tryz.func110 (body := (Tryz.f110.body.getD .skip)) (by kernel_rfl) (by kernel_rfl) (args_slot _) (seg_SendBuf_Unsent.B0_sound b w h)
  exact hc.mono fun e w' he => by
    obtain ⟨v, rfl, hv⟩ := he
    exact seg_SendBuf_Unsent.RV_elim hv
def seg_RecvBuf_Avail.B0 (b : Option Addr) (w : World)   (R : Int → World → Prop) : Prop :=
  Pn b fun a =>
  LdI .i64 (a.add 17) w fun x6 =>
  R x6 w
theorem seg_RecvBuf_Avail.B0_eq (b : Option Addr) (w : World)   (R : Int → World → Prop)  :
    (
  Pn b fun a =>
  LdI .i64 (a.add 17) w fun x6 =>
  R x6 w) = kstep Tryz.prog 7 Tryz.f111.results.toList (Tryz.f111.body.getD .skip) (seg_RecvBuf_Avail.RV R) (kvc Tryz.prog 7 Tryz.f111.results.toList (Tryz.f111.body.getD .skip) (seg_RecvBuf_Avail.RV R) [] 2000) [(0, [])] [(0, .pointer b)] w := by kernel_rfl
theorem seg_RecvBuf_Avail.B0_sound {R : Int → World → Prop}  (b : Option Addr) (w : World) (h : seg_RecvBuf_Avail.B0 b w   R) :
    KW Tryz.prog 111 7 (seg_RecvBuf_Avail.RV R) ([(0, [])].map (toItem (Tryz.f111.body.getD .skip))) [(0, .pointer b)] w := by
  exact block_spec Tryz.func111 Tryz.mixed stops_nil (Eq.mp (seg_RecvBuf_Avail.B0_eq b w   R ) h)
theorem seg_RecvBuf_Avail.sound (b : Option Addr) (w : World) (R : Int → World → Prop) (h : seg_RecvBuf_Avail.B0 b w R) : seg_RecvBuf_Avail.Call b w R := by
  have hc := calls_of_block (args := #[.pointer b]) Tryz.func111 (body := (Tryz.f111.body.getD .skip)) (by kernel_rfl) (by kernel_rfl) (args_slot _) (seg_RecvBuf_Avail.B0_sound b w h)
  exact hc.mono fun e w' he => by
    obtain ⟨v, rfl, hv⟩ := he
    exact seg_RecvBuf_Avail.RV_elim hv
def seg_RecvBuf_Held.L1b (n m0 : Int) (w : World)  (N1 : Int → Int → World → Prop) (R : Int → World → Prop) : Prop :=
  Bm (m0 != (0 : Int)) (
    N1 (IntKind.i64.wrap (n + (1 : Int))) (IntKind.u16.wrap (BitVec.ofInt IntKind.u16.bits m0 &&& BitVec.ofInt IntKind.u16.bits (IntKind.u16.wrap (m0 - (1 : Int)))).toNat) w) (
    R n w)
theorem seg_RecvBuf_Held.L1b_eq (n m0 : Int) (w : World)  (N1 : Int → Int → World → Prop) (R : Int → World → Prop)  :
    (
  Bm (m0 != (0 : Int)) (
    N1 (IntKind.i64.wrap (n + (1 : Int))) (IntKind.u16.wrap (BitVec.ofInt IntKind.u16.bits m0 &&& BitVec.ofInt IntKind.u16.bits (IntKind.u16.wrap (m0 - (1 : Int)))).toNat) w) (
    R n w)) = kstep Tryz.prog 18 Tryz.f112.results.toList (Tryz.f112.body.getD .skip) (seg_RecvBuf_Held.RV R) (kvc Tryz.prog 18 Tryz.f112.results.toList (Tryz.f112.body.getD .skip) (seg_RecvBuf_Held.RV R) [([(0, [1, 1, 0, 1, 0, 0]), (2, [1, 1, 0, 1, 0, 0]), (1, [0]), (0, [1, 1, 1])], fun σ w => dI .i64 (slotOf σ 3) fun n_ => dI .u16 (slotOf σ 4) fun m0_ => N1 n_ m0_ w)] 2000) [(0, [1, 1, 0, 1, 0, 0]), (2, [1, 1, 0, 1, 0, 0]), (1, [0]), (0, [1, 1, 1])] [(3, .int .i64 n), (4, .int .u16 m0)] w := by kernel_rfl
theorem seg_RecvBuf_Held.L1b_sound {R : Int → World → Prop} {N1 : Int → Int → World → Prop} (hN1 : ∀ n m0 w, N1 n m0 w → KW Tryz.prog 112 18 (seg_RecvBuf_Held.RV R) ([(0, [1, 1, 0, 1, 0, 0]), (2, [1, 1, 0, 1, 0, 0]), (1, [0]), (0, [1, 1, 1])].map (toItem (Tryz.f112.body.getD .skip))) [(3, .int .i64 n), (4, .int .u16 m0)] w) (n m0 : Int) (w : World) (h : seg_RecvBuf_Held.L1b n m0 w  N1 R) :
    KW Tryz.prog 112 18 (seg_RecvBuf_Held.RV R) ([(0, [1, 1, 0, 1, 0, 0]), (2, [1, 1, 0, 1, 0, 0]), (1, [0]), (0, [1, 1, 1])].map (toItem (Tryz.f112.body.getD .skip))) [(3, .int .i64 n), (4, .int .u16 m0)] w := by
  exact block_spec Tryz.func112 Tryz.mixed (stops_cons (fun σ w h => by
      obtain ⟨n_, e0, h⟩ := dI_elim h
      obtain ⟨m0_, e1, h⟩ := dI_elim h
      exact (hN1 n_ m0_ w h).weaken (Sub.cons (Sub.cons (Sub.nil _) e1) e0)) stops_nil) (Eq.mp (seg_RecvBuf_Held.L1b_eq n m0 w  N1 R ) h)
def seg_RecvBuf_Held.L1 (n m0 : Int) (w : World)  (R : Int → World → Prop) : Prop :=
  ∃ (I : Nat → Int → Int → World → Prop) (m : Nat), I m n m0 w ∧ ∀ m n m0 w, I m n m0 w → seg_RecvBuf_Held.L1b n m0 w  (fun n' m0' w' => ∃ m', m' < m ∧ I m' n' m0' w') R
theorem seg_RecvBuf_Held.L1_sound {R : Int → World → Prop}  (n m0 : Int) (w : World) (h : seg_RecvBuf_Held.L1 n m0 w  R) :
    KW Tryz.prog 112 18 (seg_RecvBuf_Held.RV R) ([(0, [1, 1, 0, 1, 0, 0]), (2, [1, 1, 0, 1, 0, 0]), (1, [0]), (0, [1, 1, 1])].map (toItem (Tryz.f112.body.getD .skip))) [(3, .int .i64 n), (4, .int .u16 m0)] w := by
  obtain ⟨I, m, hBase, hr⟩ := h
  refine KW.loop (fun m σ w => ∃ (n m0 : Int), σ = [(3, .int .i64 n), (4, .int .u16 m0)] ∧ I m n m0 w) ?_ m _ w ⟨n, m0, rfl, hBase⟩
  rintro m ih σ w ⟨n, m0, rfl, hI⟩
  exact seg_RecvBuf_Held.L1b_sound  (N1 := fun n' m0' w' => ∃ m', m' < m ∧ I m' n' m0' w') (fun n' m0' w' hx => by obtain ⟨m', hlt, hI'⟩ := hx; exact ih m' hlt _ w' ⟨n', m0', rfl, hI'⟩) n m0 w (hr m n m0 w hI)
def seg_RecvBuf_Held.B0 (b : Option Addr) (w : World)   (R : Int → World → Prop) : Prop :=
  Pn b fun a =>
  LdI .u16 (a.add 18) w fun x8 =>
  seg_RecvBuf_Held.L1 (0 : Int) x8 w  R
theorem seg_RecvBuf_Held.B0_eq (b : Option Addr) (w : World)   (R : Int → World → Prop) (sL1 : Int → Int → World → Prop) :
    (
  Pn b fun a =>
  LdI .u16 (a.add 18) w fun x8 =>
  sL1 (0 : Int) x8 w) = kstep Tryz.prog 18 Tryz.f112.results.toList (Tryz.f112.body.getD .skip) (seg_RecvBuf_Held.RV R) (kvc Tryz.prog 18 Tryz.f112.results.toList (Tryz.f112.body.getD .skip) (seg_RecvBuf_Held.RV R) [([(0, [1, 1, 0, 1, 0, 0]), (2, [1, 1, 0, 1, 0, 0]), (1, [0]), (0, [1, 1, 1])], fun σ w => dI .i64 (slotOf σ 3) fun n_ => dI .u16 (slotOf σ 4) fun m0_ => sL1 n_ m0_ w)] 2000) [(0, [])] [(0, .pointer b)] w := by kernel_rfl
theorem seg_RecvBuf_Held.B0_sound {R : Int → World → Prop}  (b : Option Addr) (w : World) (h : seg_RecvBuf_Held.B0 b w   R) :
    KW Tryz.prog 112 18 (seg_RecvBuf_Held.RV R) ([(0, [])].map (toItem (Tryz.f112.body.getD .skip))) [(0, .pointer b)] w := by
  exact block_spec Tryz.func112 Tryz.mixed (stops_cons (fun σ w h => by
      obtain ⟨n_, e0, h⟩ := dI_elim h
      obtain ⟨m0_, e1, h⟩ := dI_elim h
      exact (seg_RecvBuf_Held.L1_sound  n_ m0_ w h).weaken (Sub.cons (Sub.cons (Sub.nil _) e1) e0)) stops_nil) (Eq.mp (seg_RecvBuf_Held.B0_eq b w   R (fun n_ m0_ w => seg_RecvBuf_Held.L1 n_ m0_ w  R)) h)
theorem seg_RecvBuf_Held.sound (b : Option Addr) (w : World) (R : Int → World → Prop) (h : seg_RecvBuf_Held.B0 b w R) : seg_RecvBuf_Held.Call b w R := by
  have hc := calls_of_block (args := #[.pointer b]) Tryz.func112 (body := (Tryz.f112.body.getD .skip)) (by kernel_rfl) (by kernel_rfl) (args_slot _) (seg_RecvBuf_Held.B0_sound b w h)
  exact hc.mono fun e w' he => by
    obtain ⟨v, rfl, hv⟩ := he
    exact seg_RecvBuf_Held.RV_elim hv
def frame_Link_Decode.B0 (l raw_b : Option Addr) (raw_l raw_c : Nat) (w : World)   (R : Int → Int → Int → Option Addr → Nat → Nat → Int → World → Prop) : Prop :=
  New (.cells #[.int .i64 (0 : Int), .int .i64 (0 : Int), .int .i64 (0 : Int), .slice none 0 0] 169) w fun b4 w1 =>
  frame_sound.Call raw_b raw_l raw_c w1 fun r9 w2 =>
  Bm (r9 != (0 : Int)) (
    frame_Link_count.Call l (2 : Int) w2 fun w3 =>
    Sts [.int .i64 (0 : Int), .int .i64 (0 : Int), .int .i64 (0 : Int), .slice none 0 0] ⟨b4, 0, none⟩ 0 w3 fun w4 =>
    LdI .i64 ⟨b4, 0, none⟩ w4 fun r_0 =>
    LdI .i64 ⟨b4, 1, none⟩ w4 fun r_1 =>
    LdI .i64 ⟨b4, 2, none⟩ w4 fun r_2 =>
    LdL ⟨b4, 3, none⟩ w4 fun r_3_b r_3_l r_3_c =>
    R r_0 r_1 r_2 r_3_b r_3_l r_3_c r9 w4) (
    Pn raw_b fun a =>
    (0 ≤ (0 : Int) ∧ (0 : Int) < ((raw_l : Nat) : Int)) ∧
    LdI .u8 a w2.drew fun x18 =>
    Pn l fun a_1 =>
    LdI .u8 a_1 w2.drew fun x22 =>
    Bm (x18 != x22) (
      frame_Link_count.Call l (3 : Int) w2.drew fun w5 =>
      Sts [.int .i64 (0 : Int), .int .i64 (0 : Int), .int .i64 (0 : Int), .slice none 0 0] ⟨b4, 0, none⟩ 0 w5 fun w6 =>
      LdI .i64 ⟨b4, 0, none⟩ w6 fun r_0_1 =>
      LdI .i64 ⟨b4, 1, none⟩ w6 fun r_1_1 =>
      LdI .i64 ⟨b4, 2, none⟩ w6 fun r_2_1 =>
      LdL ⟨b4, 3, none⟩ w6 fun r_3_b_1 r_3_l_1 r_3_c_1 =>
      R r_0_1 r_1_1 r_2_1 r_3_b_1 r_3_l_1 r_3_c_1 (7 : Int) w6) (
      frame_Link_count.Call l (1 : Int) w2.drew fun w7 =>
      Pn raw_b fun a_2 =>
      (0 ≤ (3 : Int) ∧ (3 : Int) < ((raw_l : Nat) : Int)) ∧
      LdI .u8 (a_2.add 3) w7 fun x31 =>
      Make 5 (.int .u8 (0 : Int)) 1 1 (IntKind.i64.wrap x31) (IntKind.i64.wrap x31) w7 fun b33 w8 =>
      (0 ≤ (4 : Int) ∧ (4 : Int) ≤ ((raw_l : Nat) : Int)) ∧
      Copy 1 (some ⟨b33, 0, none⟩) ((IntKind.i64.wrap x31).toNat) (slBase raw_b (4 : Int) ((raw_c : Nat) : Int) 1) (((raw_l : Nat) : Int).toNat - (4 : Int).toNat) w8 fun n37 w9 =>
      Pn raw_b fun a_3 =>
      (0 ≤ (0 : Int) ∧ (0 : Int) < ((raw_l : Nat) : Int)) ∧
      LdI .u8 a_3 w9.drew fun x40 =>
      Pn raw_b fun a_4 =>
      (0 ≤ (1 : Int) ∧ (1 : Int) < ((raw_l : Nat) : Int)) ∧
      LdI .u8 (a_4.add 1) w9.drew fun x44 =>
      Pn raw_b fun a_5 =>
      (0 ≤ (2 : Int) ∧ (2 : Int) < ((raw_l : Nat) : Int)) ∧
      LdI .u8 (a_5.add 2) w9.drew fun x48 =>
      Sts [.int .i64 (IntKind.i64.wrap x40), .int .i64 (IntKind.i64.wrap x44), .int .i64 (IntKind.i64.wrap x48), .slice (some ⟨b33, 0, none⟩) ((IntKind.i64.wrap x31).toNat) ((IntKind.i64.wrap x31).toNat)] ⟨b4, 0, none⟩ 0 w9.drew fun w10 =>
      LdI .i64 ⟨b4, 0, none⟩ w10 fun r_0_2 =>
      LdI .i64 ⟨b4, 1, none⟩ w10 fun r_1_2 =>
      LdI .i64 ⟨b4, 2, none⟩ w10 fun r_2_2 =>
      LdL ⟨b4, 3, none⟩ w10 fun r_3_b_2 r_3_l_2 r_3_c_2 =>
      R r_0_2 r_1_2 r_2_2 r_3_b_2 r_3_l_2 r_3_c_2 (0 : Int) w10))
theorem frame_Link_Decode.B0_eq (l raw_b : Option Addr) (raw_l raw_c : Nat) (w : World)   (R : Int → Int → Int → Option Addr → Nat → Nat → Int → World → Prop)  :
    (
  New (.cells #[.int .i64 (0 : Int), .int .i64 (0 : Int), .int .i64 (0 : Int), .slice none 0 0] 169) w fun b4 w1 =>
  frame_sound.Call raw_b raw_l raw_c w1 fun r9 w2 =>
  Bm (r9 != (0 : Int)) (
    frame_Link_count.Call l (2 : Int) w2 fun w3 =>
    Sts [.int .i64 (0 : Int), .int .i64 (0 : Int), .int .i64 (0 : Int), .slice none 0 0] ⟨b4, 0, none⟩ 0 w3 fun w4 =>
    LdI .i64 ⟨b4, 0, none⟩ w4 fun r_0 =>
    LdI .i64 ⟨b4, 1, none⟩ w4 fun r_1 =>
    LdI .i64 ⟨b4, 2, none⟩ w4 fun r_2 =>
    LdL ⟨b4, 3, none⟩ w4 fun r_3_b r_3_l r_3_c =>
    R r_0 r_1 r_2 r_3_b r_3_l r_3_c r9 w4) (
    Pn raw_b fun a =>
    (0 ≤ (0 : Int) ∧ (0 : Int) < ((raw_l : Nat) : Int)) ∧
    LdI .u8 a w2.drew fun x18 =>
    Pn l fun a_1 =>
    LdI .u8 a_1 w2.drew fun x22 =>
    Bm (x18 != x22) (
      frame_Link_count.Call l (3 : Int) w2.drew fun w5 =>
      Sts [.int .i64 (0 : Int), .int .i64 (0 : Int), .int .i64 (0 : Int), .slice none 0 0] ⟨b4, 0, none⟩ 0 w5 fun w6 =>
      LdI .i64 ⟨b4, 0, none⟩ w6 fun r_0_1 =>
      LdI .i64 ⟨b4, 1, none⟩ w6 fun r_1_1 =>
      LdI .i64 ⟨b4, 2, none⟩ w6 fun r_2_1 =>
      LdL ⟨b4, 3, none⟩ w6 fun r_3_b_1 r_3_l_1 r_3_c_1 =>
      R r_0_1 r_1_1 r_2_1 r_3_b_1 r_3_l_1 r_3_c_1 (7 : Int) w6) (
      frame_Link_count.Call l (1 : Int) w2.drew fun w7 =>
      Pn raw_b fun a_2 =>
      (0 ≤ (3 : Int) ∧ (3 : Int) < ((raw_l : Nat) : Int)) ∧
      LdI .u8 (a_2.add 3) w7 fun x31 =>
      Make 5 (.int .u8 (0 : Int)) 1 1 (IntKind.i64.wrap x31) (IntKind.i64.wrap x31) w7 fun b33 w8 =>
      (0 ≤ (4 : Int) ∧ (4 : Int) ≤ ((raw_l : Nat) : Int)) ∧
      Copy 1 (some ⟨b33, 0, none⟩) ((IntKind.i64.wrap x31).toNat) (slBase raw_b (4 : Int) ((raw_c : Nat) : Int) 1) (((raw_l : Nat) : Int).toNat - (4 : Int).toNat) w8 fun n37 w9 =>
      Pn raw_b fun a_3 =>
      (0 ≤ (0 : Int) ∧ (0 : Int) < ((raw_l : Nat) : Int)) ∧
      LdI .u8 a_3 w9.drew fun x40 =>
      Pn raw_b fun a_4 =>
      (0 ≤ (1 : Int) ∧ (1 : Int) < ((raw_l : Nat) : Int)) ∧
      LdI .u8 (a_4.add 1) w9.drew fun x44 =>
      Pn raw_b fun a_5 =>
      (0 ≤ (2 : Int) ∧ (2 : Int) < ((raw_l : Nat) : Int)) ∧
      LdI .u8 (a_5.add 2) w9.drew fun x48 =>
      Sts [.int .i64 (IntKind.i64.wrap x40), .int .i64 (IntKind.i64.wrap x44), .int .i64 (IntKind.i64.wrap x48), .slice (some ⟨b33, 0, none⟩) ((IntKind.i64.wrap x31).toNat) ((IntKind.i64.wrap x31).toNat)] ⟨b4, 0, none⟩ 0 w9.drew fun w10 =>
      LdI .i64 ⟨b4, 0, none⟩ w10 fun r_0_2 =>
      LdI .i64 ⟨b4, 1, none⟩ w10 fun r_1_2 =>
      LdI .i64 ⟨b4, 2, none⟩ w10 fun r_2_2 =>
      LdL ⟨b4, 3, none⟩ w10 fun r_3_b_2 r_3_l_2 r_3_c_2 =>
      R r_0_2 r_1_2 r_2_2 r_3_b_2 r_3_l_2 r_3_c_2 (0 : Int) w10))) = kstep Tryz.prog 52 Tryz.f113.results.toList (Tryz.f113.body.getD .skip) (frame_Link_Decode.RV R) (kvc Tryz.prog 52 Tryz.f113.results.toList (Tryz.f113.body.getD .skip) (frame_Link_Decode.RV R) [] 2000) [(0, [])] [(0, .pointer l), (1, .slice raw_b raw_l raw_c)] w := by kernel_rfl
theorem frame_Link_Decode.B0_sound {R : Int → Int → Int → Option Addr → Nat → Nat → Int → World → Prop}  (l raw_b : Option Addr) (raw_l raw_c : Nat) (w : World) (h : frame_Link_Decode.B0 l raw_b raw_l raw_c w   R) :
    KW Tryz.prog 113 52 (frame_Link_Decode.RV R) ([(0, [])].map (toItem (Tryz.f113.body.getD .skip))) [(0, .pointer l), (1, .slice raw_b raw_l raw_c)] w := by
  exact block_spec Tryz.func113 Tryz.mixed stops_nil (Eq.mp (frame_Link_Decode.B0_eq l raw_b raw_l raw_c w   R ) h)
theorem frame_Link_Decode.sound (l raw_b : Option Addr) (raw_l raw_c : Nat) (w : World) (R : Int → Int → Int → Option Addr → Nat → Nat → Int → World → Prop) (h : frame_Link_Decode.B0 l raw_b raw_l raw_c w R) : frame_Link_Decode.Call l raw_b raw_l raw_c w R := by
  have hc := calls_of_block (args := #[.pointer l, .slice raw_b raw_l raw_c]) Tryz.func113 (body := (Tryz.f113.body.getD .skip)) (by kernel_rfl) (by kernel_rfl) (args_slot _) (frame_Link_Decode.B0_sound l raw_b raw_l raw_c w h)
  exact hc.mono fun e w' he => by
    obtain ⟨v, rfl, hv⟩ := he
    exact frame_Link_Decode.RV_elim hv
def ip_IP_Input.B4 (p pkt_b : Option Addr) (pkt_l pkt_c t4 none0 : Nat) (off : Int) (up : Nat) (i : Int) (w : World)   (R : Int → Int → Int → Option Addr → Nat → Nat → Int → World → Prop) : Prop :=
  (0 ≤ (8 : Int) ∧ (8 : Int) ≤ ((pkt_l : Nat) : Int)) ∧
  ip_IP_lay.Call p i off (slBase pkt_b (8 : Int) ((pkt_c : Nat) : Int) 1) (((pkt_l : Nat) : Int).toNat - (8 : Int).toNat) (((pkt_c : Nat) : Int).toNat - (8 : Int).toNat) w fun w1 =>
  ip_IP_whole.Call p i w1 fun r186 w2 =>
  Bm (!r186) (
    LdI .i64 ⟨none0, 0, none⟩ w2 fun x189_0 =>
    LdI .i64 ⟨none0, 1, none⟩ w2 fun x189_1 =>
    LdI .i64 ⟨none0, 2, none⟩ w2 fun x189_2 =>
    LdL ⟨none0, 3, none⟩ w2 fun x189_3_b x189_3_l x189_3_c =>
    Sts [.int .i64 x189_0, .int .i64 x189_1, .int .i64 x189_2, .slice x189_3_b x189_3_l x189_3_c] ⟨t4, 0, none⟩ 0 w2 fun w3 =>
    LdI .i64 ⟨t4, 0, none⟩ w3 fun r_0 =>
    LdI .i64 ⟨t4, 1, none⟩ w3 fun r_1 =>
    LdI .i64 ⟨t4, 2, none⟩ w3 fun r_2 =>
    LdL ⟨t4, 3, none⟩ w3 fun r_3_b r_3_l r_3_c =>
    R r_0 r_1 r_2 r_3_b r_3_l r_3_c (10 : Int) w3) (
    Pn p fun a =>
    (0 ≤ i ∧ i < ((3 : Nat) : Int)) ∧
    LdI .i64 ((Addr.add (a.add 3) (i.toNat * 45)).add 3) w2 fun x196 =>
    Pn p fun a_1 =>
    (0 ≤ i ∧ i < ((3 : Nat) : Int)) ∧
    (0 ≤ x196 ∧ x196 ≤ ((40 : Nat) : Int)) ∧
    api_CopyBytes.Call (some (slBaseA ((Addr.add (a_1.add 3) (i.toNat * 45)).add 5) ((0 : Nat) : Int) ((40 : Nat) : Int) 1)) (x196.toNat - ((0 : Nat) : Int).toNat) (((40 : Nat) : Int).toNat - ((0 : Nat) : Int).toNat) w2 fun r205_b r205_l r205_c w4 =>
    Sts [.slice r205_b r205_l r205_c] ⟨up, 3, none⟩ 0 w4 fun w5 =>
    Pn p fun a_2 =>
    (0 ≤ i ∧ i < ((3 : Nat) : Int)) ∧
    Sts [.bool false] (Addr.add (a_2.add 3) (i.toNat * 45)) 0 w5 fun w6 =>
    LdI .i64 ⟨up, 0, none⟩ w6 fun x213_0 =>
    LdI .i64 ⟨up, 1, none⟩ w6 fun x213_1 =>
    LdI .i64 ⟨up, 2, none⟩ w6 fun x213_2 =>
    LdL ⟨up, 3, none⟩ w6 fun x213_3_b x213_3_l x213_3_c =>
    Sts [.int .i64 x213_0, .int .i64 x213_1, .int .i64 x213_2, .slice x213_3_b x213_3_l x213_3_c] ⟨t4, 0, none⟩ 0 w6 fun w7 =>
    LdI .i64 ⟨t4, 0, none⟩ w7 fun r_0_1 =>
    LdI .i64 ⟨t4, 1, none⟩ w7 fun r_1_1 =>
    LdI .i64 ⟨t4, 2, none⟩ w7 fun r_2_1 =>
    LdL ⟨t4, 3, none⟩ w7 fun r_3_b_1 r_3_l_1 r_3_c_1 =>
    R r_0_1 r_1_1 r_2_1 r_3_b_1 r_3_l_1 r_3_c_1 (0 : Int) w7)
theorem ip_IP_Input.B4_eq (p pkt_b : Option Addr) (pkt_l pkt_c t4 none0 : Nat) (off : Int) (up : Nat) (i : Int) (w : World)   (R : Int → Int → Int → Option Addr → Nat → Nat → Int → World → Prop)  :
    (
  (0 ≤ (8 : Int) ∧ (8 : Int) ≤ ((pkt_l : Nat) : Int)) ∧
  ip_IP_lay.Call p i off (slBase pkt_b (8 : Int) ((pkt_c : Nat) : Int) 1) (((pkt_l : Nat) : Int).toNat - (8 : Int).toNat) (((pkt_c : Nat) : Int).toNat - (8 : Int).toNat) w fun w1 =>
  ip_IP_whole.Call p i w1 fun r186 w2 =>
  Bm (!r186) (
    LdI .i64 ⟨none0, 0, none⟩ w2 fun x189_0 =>
    LdI .i64 ⟨none0, 1, none⟩ w2 fun x189_1 =>
    LdI .i64 ⟨none0, 2, none⟩ w2 fun x189_2 =>
    LdL ⟨none0, 3, none⟩ w2 fun x189_3_b x189_3_l x189_3_c =>
    Sts [.int .i64 x189_0, .int .i64 x189_1, .int .i64 x189_2, .slice x189_3_b x189_3_l x189_3_c] ⟨t4, 0, none⟩ 0 w2 fun w3 =>
    LdI .i64 ⟨t4, 0, none⟩ w3 fun r_0 =>
    LdI .i64 ⟨t4, 1, none⟩ w3 fun r_1 =>
    LdI .i64 ⟨t4, 2, none⟩ w3 fun r_2 =>
    LdL ⟨t4, 3, none⟩ w3 fun r_3_b r_3_l r_3_c =>
    R r_0 r_1 r_2 r_3_b r_3_l r_3_c (10 : Int) w3) (
    Pn p fun a =>
    (0 ≤ i ∧ i < ((3 : Nat) : Int)) ∧
    LdI .i64 ((Addr.add (a.add 3) (i.toNat * 45)).add 3) w2 fun x196 =>
    Pn p fun a_1 =>
    (0 ≤ i ∧ i < ((3 : Nat) : Int)) ∧
    (0 ≤ x196 ∧ x196 ≤ ((40 : Nat) : Int)) ∧
    api_CopyBytes.Call (some (slBaseA ((Addr.add (a_1.add 3) (i.toNat * 45)).add 5) ((0 : Nat) : Int) ((40 : Nat) : Int) 1)) (x196.toNat - ((0 : Nat) : Int).toNat) (((40 : Nat) : Int).toNat - ((0 : Nat) : Int).toNat) w2 fun r205_b r205_l r205_c w4 =>
    Sts [.slice r205_b r205_l r205_c] ⟨up, 3, none⟩ 0 w4 fun w5 =>
    Pn p fun a_2 =>
    (0 ≤ i ∧ i < ((3 : Nat) : Int)) ∧
    Sts [.bool false] (Addr.add (a_2.add 3) (i.toNat * 45)) 0 w5 fun w6 =>
    LdI .i64 ⟨up, 0, none⟩ w6 fun x213_0 =>
    LdI .i64 ⟨up, 1, none⟩ w6 fun x213_1 =>
    LdI .i64 ⟨up, 2, none⟩ w6 fun x213_2 =>
    LdL ⟨up, 3, none⟩ w6 fun x213_3_b x213_3_l x213_3_c =>
    Sts [.int .i64 x213_0, .int .i64 x213_1, .int .i64 x213_2, .slice x213_3_b x213_3_l x213_3_c] ⟨t4, 0, none⟩ 0 w6 fun w7 =>
    LdI .i64 ⟨t4, 0, none⟩ w7 fun r_0_1 =>
    LdI .i64 ⟨t4, 1, none⟩ w7 fun r_1_1 =>
    LdI .i64 ⟨t4, 2, none⟩ w7 fun r_2_1 =>
    LdL ⟨t4, 3, none⟩ w7 fun r_3_b_1 r_3_l_1 r_3_c_1 =>
    R r_0_1 r_1_1 r_2_1 r_3_b_1 r_3_l_1 r_3_c_1 (0 : Int) w7)) = kstep Tryz.prog 214 Tryz.f114.results.toList (Tryz.f114.body.getD .skip) (ip_IP_Input.RV R) (kvc Tryz.prog 214 Tryz.f114.results.toList (Tryz.f114.body.getD .skip) (ip_IP_Input.RV R) [] 2000) [(0, [1, 1, 1, 1, 1, 1, 1, 1, 1, 1, 1, 1, 1, 1, 1, 1, 1, 1, 1, 1, 1, 1])] [(0, .pointer p), (1, .slice pkt_b pkt_l pkt_c), (4, .pointer (some ⟨t4, 0, none⟩)), (6, .pointer (some ⟨none0, 0, none⟩)), (9, .int .i64 off), (12, .pointer (some ⟨up, 0, none⟩)), (14, .int .i64 i)] w := by kernel_rfl
theorem ip_IP_Input.B4_sound {R : Int → Int → Int → Option Addr → Nat → Nat → Int → World → Prop}  (p pkt_b : Option Addr) (pkt_l pkt_c t4 none0 : Nat) (off : Int) (up : Nat) (i : Int) (w : World) (h : ip_IP_Input.B4 p pkt_b pkt_l pkt_c t4 none0 off up i w   R) :
    KW Tryz.prog 114 214 (ip_IP_Input.RV R) ([(0, [1, 1, 1, 1, 1, 1, 1, 1, 1, 1, 1, 1, 1, 1, 1, 1, 1, 1, 1, 1, 1, 1])].map (toItem (Tryz.f114.body.getD .skip))) [(0, .pointer p), (1, .slice pkt_b pkt_l pkt_c), (4, .pointer (some ⟨t4, 0, none⟩)), (6, .pointer (some ⟨none0, 0, none⟩)), (9, .int .i64 off), (12, .pointer (some ⟨up, 0, none⟩)), (14, .int .i64 i)] w := by
  exact block_spec Tryz.func114 Tryz.mixed stops_nil (Eq.mp (ip_IP_Input.B4_eq p pkt_b pkt_l pkt_c t4 none0 off up i w   R ) h)
def ip_IP_Input.B3 (p pkt_b : Option Addr) (pkt_l pkt_c t4 none0 : Nat) (off : Int) (more : Bool) (end0 : Int) (up : Nat) (i : Int) (w : World)   (R : Int → Int → Int → Option Addr → Nat → Nat → Int → World → Prop) : Prop :=
  ip_IP_clash.Call p i end0 more w fun r160 w1 =>
  Bm r160 (
    Pn p fun a =>
    (0 ≤ i ∧ i < ((3 : Nat) : Int)) ∧
    Sts [.bool false] (Addr.add (a.add 3) (i.toNat * 45)) 0 w1 fun w2 =>
    LdI .i64 ⟨none0, 0, none⟩ w2 fun x168_0 =>
    LdI .i64 ⟨none0, 1, none⟩ w2 fun x168_1 =>
    LdI .i64 ⟨none0, 2, none⟩ w2 fun x168_2 =>
    LdL ⟨none0, 3, none⟩ w2 fun x168_3_b x168_3_l x168_3_c =>
    Sts [.int .i64 x168_0, .int .i64 x168_1, .int .i64 x168_2, .slice x168_3_b x168_3_l x168_3_c] ⟨t4, 0, none⟩ 0 w2 fun w3 =>
    LdI .i64 ⟨t4, 0, none⟩ w3 fun r_0 =>
    LdI .i64 ⟨t4, 1, none⟩ w3 fun r_1 =>
    LdI .i64 ⟨t4, 2, none⟩ w3 fun r_2 =>
    LdL ⟨t4, 3, none⟩ w3 fun r_3_b r_3_l r_3_c =>
    R r_0 r_1 r_2 r_3_b r_3_l r_3_c (9 : Int) w3) (
    Bm (!more) (
      Pn p fun a_1 =>
      (0 ≤ i ∧ i < ((3 : Nat) : Int)) ∧
      Sts [.int .i64 end0] ((Addr.add (a_1.add 3) (i.toNat * 45)).add 3) 0 w1 fun w4 =>
      ip_IP_Input.B4 p pkt_b pkt_l pkt_c t4 none0 off up i w4  R) (
      ip_IP_Input.B4 p pkt_b pkt_l pkt_c t4 none0 off up i w1  R))
theorem ip_IP_Input.B3_eq (p pkt_b : Option Addr) (pkt_l pkt_c t4 none0 : Nat) (off : Int) (more : Bool) (end0 : Int) (up : Nat) (i : Int) (w : World)   (R : Int → Int → Int → Option Addr → Nat → Nat → Int → World → Prop) (sB4 : Option Addr → Option Addr → Nat → Nat → Nat → Nat → Int → Nat → Int → World → Prop) :
    (
  ip_IP_clash.Call p i end0 more w fun r160 w1 =>
  Bm r160 (
    Pn p fun a =>
    (0 ≤ i ∧ i < ((3 : Nat) : Int)) ∧
    Sts [.bool false] (Addr.add (a.add 3) (i.toNat * 45)) 0 w1 fun w2 =>
    LdI .i64 ⟨none0, 0, none⟩ w2 fun x168_0 =>
    LdI .i64 ⟨none0, 1, none⟩ w2 fun x168_1 =>
    LdI .i64 ⟨none0, 2, none⟩ w2 fun x168_2 =>
    LdL ⟨none0, 3, none⟩ w2 fun x168_3_b x168_3_l x168_3_c =>
    Sts [.int .i64 x168_0, .int .i64 x168_1, .int .i64 x168_2, .slice x168_3_b x168_3_l x168_3_c] ⟨t4, 0, none⟩ 0 w2 fun w3 =>
    LdI .i64 ⟨t4, 0, none⟩ w3 fun r_0 =>
    LdI .i64 ⟨t4, 1, none⟩ w3 fun r_1 =>
    LdI .i64 ⟨t4, 2, none⟩ w3 fun r_2 =>
    LdL ⟨t4, 3, none⟩ w3 fun r_3_b r_3_l r_3_c =>
    R r_0 r_1 r_2 r_3_b r_3_l r_3_c (9 : Int) w3) (
    Bm (!more) (
      Pn p fun a_1 =>
      (0 ≤ i ∧ i < ((3 : Nat) : Int)) ∧
      Sts [.int .i64 end0] ((Addr.add (a_1.add 3) (i.toNat * 45)).add 3) 0 w1 fun w4 =>
      sB4 p pkt_b pkt_l pkt_c t4 none0 off up i w4) (
      sB4 p pkt_b pkt_l pkt_c t4 none0 off up i w1))) = kstep Tryz.prog 214 Tryz.f114.results.toList (Tryz.f114.body.getD .skip) (ip_IP_Input.RV R) (kvc Tryz.prog 214 Tryz.f114.results.toList (Tryz.f114.body.getD .skip) (ip_IP_Input.RV R) [([(0, [1, 1, 1, 1, 1, 1, 1, 1, 1, 1, 1, 1, 1, 1, 1, 1, 1, 1, 1, 1, 1, 1])], fun σ w => dP (slotOf σ 0) fun p_ => dL (slotOf σ 1) fun pkt_b_ pkt_l_ pkt_c_ => dK (slotOf σ 4) fun t4_ => dK (slotOf σ 6) fun none0_ => dI .i64 (slotOf σ 9) fun off_ => dK (slotOf σ 12) fun up_ => dI .i64 (slotOf σ 14) fun i_ => sB4 p_ pkt_b_ pkt_l_ pkt_c_ t4_ none0_ off_ up_ i_ w)] 2000) [(0, [1, 1, 1, 1, 1, 1, 1, 1, 1, 1, 1, 1, 1, 1, 1, 1, 1, 1, 1])] [(0, .pointer p), (1, .slice pkt_b pkt_l pkt_c), (4, .pointer (some ⟨t4, 0, none⟩)), (6, .pointer (some ⟨none0, 0, none⟩)), (9, .int .i64 off), (10, .bool more), (11, .int .i64 end0), (12, .pointer (some ⟨up, 0, none⟩)), (14, .int .i64 i)] w := by kernel_rfl
theorem ip_IP_Input.B3_sound {R : Int → Int → Int → Option Addr → Nat → Nat → Int → World → Prop}  (p pkt_b : Option Addr) (pkt_l pkt_c t4 none0 : Nat) (off : Int) (more : Bool) (end0 : Int) (up : Nat) (i : Int) (w : World) (h : ip_IP_Input.B3 p pkt_b pkt_l pkt_c t4 none0 off more end0 up i w   R) :
    KW Tryz.prog 114 214 (ip_IP_Input.RV R) ([(0, [1, 1, 1, 1, 1, 1, 1, 1, 1, 1, 1, 1, 1, 1, 1, 1, 1, 1, 1])].map (toItem (Tryz.f114.body.getD .skip))) [(0, .pointer p), (1, .slice pkt_b pkt_l pkt_c), (4, .pointer (some ⟨t4, 0, none⟩)), (6, .pointer (some ⟨none0, 0, none⟩)), (9, .int .i64 off), (10, .bool more), (11, .int .i64 end0), (12, .pointer (some ⟨up, 0, none⟩)), (14, .int .i64 i)] w := by
  exact block_spec Tryz.func114 Tryz.mixed (stops_cons (fun σ w h => by
      obtain ⟨p_, e0, h⟩ := dP_elim h
      obtain ⟨pkt_b_, pkt_l_, pkt_c_, e1, h⟩ := dL_elim h
      obtain ⟨t4_, e2, h⟩ := dK_elim h
      obtain ⟨none0_, e3, h⟩ := dK_elim h
      obtain ⟨off_, e4, h⟩ := dI_elim h
      obtain ⟨up_, e5, h⟩ := dK_elim h
      obtain ⟨i_, e6, h⟩ := dI_elim h
      exact (ip_IP_Input.B4_sound  p_ pkt_b_ pkt_l_ pkt_c_ t4_ none0_ off_ up_ i_ w h).weaken (Sub.cons (Sub.cons (Sub.cons (Sub.cons (Sub.cons (Sub.cons (Sub.cons (Sub.nil _) e6) e5) e4) e3) e2) e1) e0)) stops_nil) (Eq.mp (ip_IP_Input.B3_eq p pkt_b pkt_l pkt_c t4 none0 off more end0 up i w   R (fun p_ pkt_b_ pkt_l_ pkt_c_ t4_ none0_ off_ up_ i_ w => ip_IP_Input.B4 p_ pkt_b_ pkt_l_ pkt_c_ t4_ none0_ off_ up_ i_ w  R)) h)
def ip_IP_Input.B2 (p pkt_b : Option Addr) (pkt_l pkt_c t4 none0 : Nat) (off : Int) (more : Bool) (end0 : Int) (up : Nat) (t100 : Bool) (w : World)   (R : Int → Int → Int → Option Addr → Nat → Nat → Int → World → Prop) : Prop :=
  Bm t100 (
    (0 ≤ (8 : Int) ∧ (8 : Int) ≤ ((pkt_l : Nat) : Int)) ∧
    api_CopyBytes.Call (slBase pkt_b (8 : Int) ((pkt_c : Nat) : Int) 1) (((pkt_l : Nat) : Int).toNat - (8 : Int).toNat) (((pkt_c : Nat) : Int).toNat - (8 : Int).toNat) w fun r103_b r103_l r103_c w1 =>
    Sts [.slice r103_b r103_l r103_c] ⟨up, 3, none⟩ 0 w1 fun w2 =>
    LdI .i64 ⟨up, 0, none⟩ w2 fun x105_0 =>
    LdI .i64 ⟨up, 1, none⟩ w2 fun x105_1 =>
    LdI .i64 ⟨up, 2, none⟩ w2 fun x105_2 =>
    LdL ⟨up, 3, none⟩ w2 fun x105_3_b x105_3_l x105_3_c =>
    Sts [.int .i64 x105_0, .int .i64 x105_1, .int .i64 x105_2, .slice x105_3_b x105_3_l x105_3_c] ⟨t4, 0, none⟩ 0 w2 fun w3 =>
    LdI .i64 ⟨t4, 0, none⟩ w3 fun r_0 =>
    LdI .i64 ⟨t4, 1, none⟩ w3 fun r_1 =>
    LdI .i64 ⟨t4, 2, none⟩ w3 fun r_2 =>
    LdL ⟨t4, 3, none⟩ w3 fun r_3_b r_3_l r_3_c =>
    R r_0 r_1 r_2 r_3_b r_3_l r_3_c (0 : Int) w3) (
    LdI .i64 ⟨up, 0, none⟩ w.drew fun x107 =>
    LdI .i64 ⟨up, 2, none⟩ w.drew fun x109 =>
    Pn pkt_b fun a =>
    (0 ≤ (4 : Int) ∧ (4 : Int) < ((pkt_l : Nat) : Int)) ∧
    LdI .u8 (a.add 4) w.drew fun x112 =>
    ip_keyOf.Call x107 x109 (IntKind.i64.wrap x112) w.drew fun r114 w4 =>
    ip_IP_find.Call p r114 w4 fun r117 w5 =>
    Bm (decide (r117 < (0 : Int))) (
      ip_IP_vacant.Call p w5 fun r121 w6 =>
      Bm (decide (r121 < (0 : Int))) (
        LdI .i64 ⟨none0, 0, none⟩ w6 fun x124_0 =>
        LdI .i64 ⟨none0, 1, none⟩ w6 fun x124_1 =>
        LdI .i64 ⟨none0, 2, none⟩ w6 fun x124_2 =>
        LdL ⟨none0, 3, none⟩ w6 fun x124_3_b x124_3_l x124_3_c =>
        Sts [.int .i64 x124_0, .int .i64 x124_1, .int .i64 x124_2, .slice x124_3_b x124_3_l x124_3_c] ⟨t4, 0, none⟩ 0 w6 fun w7 =>
        LdI .i64 ⟨t4, 0, none⟩ w7 fun r_0_1 =>
        LdI .i64 ⟨t4, 1, none⟩ w7 fun r_1_1 =>
        LdI .i64 ⟨t4, 2, none⟩ w7 fun r_2_1 =>
        LdL ⟨t4, 3, none⟩ w7 fun r_3_b_1 r_3_l_1 r_3_c_1 =>
        R r_0_1 r_1_1 r_2_1 r_3_b_1 r_3_l_1 r_3_c_1 (11 : Int) w7) (
        Pn p fun a_1 =>
        (0 ≤ r121 ∧ r121 < ((3 : Nat) : Int)) ∧
        Sts [.bool true] (Addr.add (a_1.add 3) (r121.toNat * 45)) 0 w6 fun w8 =>
        Pn p fun a_2 =>
        (0 ≤ r121 ∧ r121 < ((3 : Nat) : Int)) ∧
        Sts [.int .i64 r114] ((Addr.add (a_2.add 3) (r121.toNat * 45)).add 1) 0 w8 fun w9 =>
        Pn p fun a_3 =>
        (0 ≤ r121 ∧ r121 < ((3 : Nat) : Int)) ∧
        Sts [.int .i64 (4 : Int)] ((Addr.add (a_3.add 3) (r121.toNat * 45)).add 2) 0 w9 fun w10 =>
        Pn p fun a_4 =>
        (0 ≤ r121 ∧ r121 < ((3 : Nat) : Int)) ∧
        Sts [.int .i64 (-1 : Int)] ((Addr.add (a_4.add 3) (r121.toNat * 45)).add 3) 0 w10 fun w11 =>
        Pn p fun a_5 =>
        (0 ≤ r121 ∧ r121 < ((3 : Nat) : Int)) ∧
        Sts [.int .u64 (0 : Int)] ((Addr.add (a_5.add 3) (r121.toNat * 45)).add 4) 0 w11 fun w12 =>
        ip_IP_Input.B3 p pkt_b pkt_l pkt_c t4 none0 off more end0 up r121 w12  R)) (
      ip_IP_Input.B3 p pkt_b pkt_l pkt_c t4 none0 off more end0 up r117 w5  R))
theorem ip_IP_Input.B2_eq (p pkt_b : Option Addr) (pkt_l pkt_c t4 none0 : Nat) (off : Int) (more : Bool) (end0 : Int) (up : Nat) (t100 : Bool) (w : World)   (R : Int → Int → Int → Option Addr → Nat → Nat → Int → World → Prop) (sB3 : Option Addr → Option Addr → Nat → Nat → Nat → Nat → Int → Bool → Int → Nat → Int → World → Prop) :
    (
  Bm t100 (
    (0 ≤ (8 : Int) ∧ (8 : Int) ≤ ((pkt_l : Nat) : Int)) ∧
    api_CopyBytes.Call (slBase pkt_b (8 : Int) ((pkt_c : Nat) : Int) 1) (((pkt_l : Nat) : Int).toNat - (8 : Int).toNat) (((pkt_c : Nat) : Int).toNat - (8 : Int).toNat) w fun r103_b r103_l r103_c w1 =>
    Sts [.slice r103_b r103_l r103_c] ⟨up, 3, none⟩ 0 w1 fun w2 =>
    LdI .i64 ⟨up, 0, none⟩ w2 fun x105_0 =>
    LdI .i64 ⟨up, 1, none⟩ w2 fun x105_1 =>
    LdI .i64 ⟨up, 2, none⟩ w2 fun x105_2 =>
    LdL ⟨up, 3, none⟩ w2 fun x105_3_b x105_3_l x105_3_c =>
    Sts [.int .i64 x105_0, .int .i64 x105_1, .int .i64 x105_2, .slice x105_3_b x105_3_l x105_3_c] ⟨t4, 0, none⟩ 0 w2 fun w3 =>
    LdI .i64 ⟨t4, 0, none⟩ w3 fun r_0 =>
    LdI .i64 ⟨t4, 1, none⟩ w3 fun r_1 =>
    LdI .i64 ⟨t4, 2, none⟩ w3 fun r_2 =>
    LdL ⟨t4, 3, none⟩ w3 fun r_3_b r_3_l r_3_c =>
    R r_0 r_1 r_2 r_3_b r_3_l r_3_c (0 : Int) w3) (
    LdI .i64 ⟨up, 0, none⟩ w.drew fun x107 =>
    LdI .i64 ⟨up, 2, none⟩ w.drew fun x109 =>
    Pn pkt_b fun a =>
    (0 ≤ (4 : Int) ∧ (4 : Int) < ((pkt_l : Nat) : Int)) ∧
    LdI .u8 (a.add 4) w.drew fun x112 =>
    ip_keyOf.Call x107 x109 (IntKind.i64.wrap x112) w.drew fun r114 w4 =>
    ip_IP_find.Call p r114 w4 fun r117 w5 =>
    Bm (decide (r117 < (0 : Int))) (
      ip_IP_vacant.Call p w5 fun r121 w6 =>
      Bm (decide (r121 < (0 : Int))) (
        LdI .i64 ⟨none0, 0, none⟩ w6 fun x124_0 =>
        LdI .i64 ⟨none0, 1, none⟩ w6 fun x124_1 =>
        LdI .i64 ⟨none0, 2, none⟩ w6 fun x124_2 =>
        LdL ⟨none0, 3, none⟩ w6 fun x124_3_b x124_3_l x124_3_c =>
        Sts [.int .i64 x124_0, .int .i64 x124_1, .int .i64 x124_2, .slice x124_3_b x124_3_l x124_3_c] ⟨t4, 0, none⟩ 0 w6 fun w7 =>
        LdI .i64 ⟨t4, 0, none⟩ w7 fun r_0_1 =>
        LdI .i64 ⟨t4, 1, none⟩ w7 fun r_1_1 =>
        LdI .i64 ⟨t4, 2, none⟩ w7 fun r_2_1 =>
        LdL ⟨t4, 3, none⟩ w7 fun r_3_b_1 r_3_l_1 r_3_c_1 =>
        R r_0_1 r_1_1 r_2_1 r_3_b_1 r_3_l_1 r_3_c_1 (11 : Int) w7) (
        Pn p fun a_1 =>
        (0 ≤ r121 ∧ r121 < ((3 : Nat) : Int)) ∧
        Sts [.bool true] (Addr.add (a_1.add 3) (r121.toNat * 45)) 0 w6 fun w8 =>
        Pn p fun a_2 =>
        (0 ≤ r121 ∧ r121 < ((3 : Nat) : Int)) ∧
        Sts [.int .i64 r114] ((Addr.add (a_2.add 3) (r121.toNat * 45)).add 1) 0 w8 fun w9 =>
        Pn p fun a_3 =>
        (0 ≤ r121 ∧ r121 < ((3 : Nat) : Int)) ∧
        Sts [.int .i64 (4 : Int)] ((Addr.add (a_3.add 3) (r121.toNat * 45)).add 2) 0 w9 fun w10 =>
        Pn p fun a_4 =>
        (0 ≤ r121 ∧ r121 < ((3 : Nat) : Int)) ∧
        Sts [.int .i64 (-1 : Int)] ((Addr.add (a_4.add 3) (r121.toNat * 45)).add 3) 0 w10 fun w11 =>
        Pn p fun a_5 =>
        (0 ≤ r121 ∧ r121 < ((3 : Nat) : Int)) ∧
        Sts [.int .u64 (0 : Int)] ((Addr.add (a_5.add 3) (r121.toNat * 45)).add 4) 0 w11 fun w12 =>
        sB3 p pkt_b pkt_l pkt_c t4 none0 off more end0 up r121 w12)) (
      sB3 p pkt_b pkt_l pkt_c t4 none0 off more end0 up r117 w5))) = kstep Tryz.prog 214 Tryz.f114.results.toList (Tryz.f114.body.getD .skip) (ip_IP_Input.RV R) (kvc Tryz.prog 214 Tryz.f114.results.toList (Tryz.f114.body.getD .skip) (ip_IP_Input.RV R) [([(0, [1, 1, 1, 1, 1, 1, 1, 1, 1, 1, 1, 1, 1, 1, 1, 1, 1, 1, 1])], fun σ w => dP (slotOf σ 0) fun p_ => dL (slotOf σ 1) fun pkt_b_ pkt_l_ pkt_c_ => dK (slotOf σ 4) fun t4_ => dK (slotOf σ 6) fun none0_ => dI .i64 (slotOf σ 9) fun off_ => dB (slotOf σ 10) fun more_ => dI .i64 (slotOf σ 11) fun end0_ => dK (slotOf σ 12) fun up_ => dI .i64 (slotOf σ 14) fun i_ => sB3 p_ pkt_b_ pkt_l_ pkt_c_ t4_ none0_ off_ more_ end0_ up_ i_ w)] 2000) [(0, [1, 1, 1, 1, 1, 1, 1, 1, 1, 1, 1, 1, 1, 1, 1, 0, 1]), (0, [1, 1, 1, 1, 1, 1, 1, 1, 1, 1, 1, 1, 1, 1, 1, 1])] [(0, .pointer p), (1, .slice pkt_b pkt_l pkt_c), (4, .pointer (some ⟨t4, 0, none⟩)), (6, .pointer (some ⟨none0, 0, none⟩)), (9, .int .i64 off), (10, .bool more), (11, .int .i64 end0), (12, .pointer (some ⟨up, 0, none⟩)), (100, .bool t100)] w := by kernel_rfl
theorem ip_IP_Input.B2_sound {R : Int → Int → Int → Option Addr → Nat → Nat → Int → World → Prop}  (p pkt_b : Option Addr) (pkt_l pkt_c t4 none0 : Nat) (off : Int) (more : Bool) (end0 : Int) (up : Nat) (t100 : Bool) (w : World) (h : ip_IP_Input.B2 p pkt_b pkt_l pkt_c t4 none0 off more end0 up t100 w   R) :
    KW Tryz.prog 114 214 (ip_IP_Input.RV R) ([(0, [1, 1, 1, 1, 1, 1, 1, 1, 1, 1, 1, 1, 1, 1, 1, 0, 1]), (0, [1, 1, 1, 1, 1, 1, 1, 1, 1, 1, 1, 1, 1, 1, 1, 1])].map (toItem (Tryz.f114.body.getD .skip))) [(0, .pointer p), (1, .slice pkt_b pkt_l pkt_c), (4, .pointer (some ⟨t4, 0, none⟩)), (6, .pointer (some ⟨none0, 0, none⟩)), (9, .int .i64 off), (10, .bool more), (11, .int .i64 end0), (12, .pointer (some ⟨up, 0, none⟩)), (100, .bool t100)] w := by
  exact block_spec Tryz.func114 Tryz.mixed (stops_cons (fun σ w h => by
      obtain ⟨p_, e0, h⟩ := dP_elim h
      obtain ⟨pkt_b_, pkt_l_, pkt_c_, e1, h⟩ := dL_elim h
      obtain ⟨t4_, e2, h⟩ := dK_elim h
      obtain ⟨none0_, e3, h⟩ := dK_elim h
      obtain ⟨off_, e4, h⟩ := dI_elim h
      obtain ⟨more_, e5, h⟩ := dB_elim h
      obtain ⟨end0_, e6, h⟩ := dI_elim h
      obtain ⟨up_, e7, h⟩ := dK_elim h
      obtain ⟨i_, e8, h⟩ := dI_elim h
      exact (ip_IP_Input.B3_sound  p_ pkt_b_ pkt_l_ pkt_c_ t4_ none0_ off_ more_ end0_ up_ i_ w h).weaken (Sub.cons (Sub.cons (Sub.cons (Sub.cons (Sub.cons (Sub.cons (Sub.cons (Sub.cons (Sub.cons (Sub.nil _) e8) e7) e6) e5) e4) e3) e2) e1) e0)) stops_nil) (Eq.mp (ip_IP_Input.B2_eq p pkt_b pkt_l pkt_c t4 none0 off more end0 up t100 w   R (fun p_ pkt_b_ pkt_l_ pkt_c_ t4_ none0_ off_ more_ end0_ up_ i_ w => ip_IP_Input.B3 p_ pkt_b_ pkt_l_ pkt_c_ t4_ none0_ off_ more_ end0_ up_ i_ w  R)) h)
def ip_IP_Input.B1 (p pkt_b : Option Addr) (pkt_l pkt_c t4 none0 : Nat) (off : Int) (more : Bool) (end0 : Int) (t80 : Bool) (w : World)   (R : Int → Int → Int → Option Addr → Nat → Nat → Int → World → Prop) : Prop :=
  Bm t80 (
    LdI .i64 ⟨none0, 0, none⟩ w fun x81_0 =>
    LdI .i64 ⟨none0, 1, none⟩ w fun x81_1 =>
    LdI .i64 ⟨none0, 2, none⟩ w fun x81_2 =>
    LdL ⟨none0, 3, none⟩ w fun x81_3_b x81_3_l x81_3_c =>
    Sts [.int .i64 x81_0, .int .i64 x81_1, .int .i64 x81_2, .slice x81_3_b x81_3_l x81_3_c] ⟨t4, 0, none⟩ 0 w fun w1 =>
    LdI .i64 ⟨t4, 0, none⟩ w1 fun r_0 =>
    LdI .i64 ⟨t4, 1, none⟩ w1 fun r_1 =>
    LdI .i64 ⟨t4, 2, none⟩ w1 fun r_2 =>
    LdL ⟨t4, 3, none⟩ w1 fun r_3_b r_3_l r_3_c =>
    R r_0 r_1 r_2 r_3_b r_3_l r_3_c (9 : Int) w1) (
    Pn pkt_b fun a =>
    (0 ≤ (2 : Int) ∧ (2 : Int) < ((pkt_l : Nat) : Int)) ∧
    LdI .u8 (a.add 2) w.drew fun x84 =>
    Pn p fun a_1 =>
    LdI .i64 a_1 w.drew fun x89 =>
    Pn pkt_b fun a_2 =>
    (0 ≤ (0 : Int) ∧ (0 : Int) < ((pkt_l : Nat) : Int)) ∧
    LdI .u8 a_2 w.drew fun x92 =>
    New (.cells #[.int .i64 (0 : Int), .int .i64 (0 : Int), .int .i64 (0 : Int), .slice none 0 0] 173) w.drew fun up_ w2 =>
    w2.cell? a_2 = some (.int .u8 x92) ∧
    w2.cell? a_1 = some (.int .i64 x89) ∧
    w2.cell? (a.add 2) = some (.int .u8 x84) ∧
    Sts [.int .i64 (IntKind.i64.wrap x84), .int .i64 x89, .int .i64 (IntKind.i64.wrap x92), .slice none 0 0] ⟨up_, 0, none⟩ 0 w2 fun w3 =>
    Bm (off == (0 : Int)) (
      ip_IP_Input.B2 p pkt_b pkt_l pkt_c t4 none0 off more end0 up_ (!more) w3  R) (
      ip_IP_Input.B2 p pkt_b pkt_l pkt_c t4 none0 off more end0 up_ false w3  R))
theorem ip_IP_Input.B1_eq (p pkt_b : Option Addr) (pkt_l pkt_c t4 none0 : Nat) (off : Int) (more : Bool) (end0 : Int) (t80 : Bool) (w : World)   (R : Int → Int → Int → Option Addr → Nat → Nat → Int → World → Prop) (sB2 : Option Addr → Option Addr → Nat → Nat → Nat → Nat → Int → Bool → Int → Nat → Bool → World → Prop) :
    (
  Bm t80 (
    LdI .i64 ⟨none0, 0, none⟩ w fun x81_0 =>
    LdI .i64 ⟨none0, 1, none⟩ w fun x81_1 =>
    LdI .i64 ⟨none0, 2, none⟩ w fun x81_2 =>
    LdL ⟨none0, 3, none⟩ w fun x81_3_b x81_3_l x81_3_c =>
    Sts [.int .i64 x81_0, .int .i64 x81_1, .int .i64 x81_2, .slice x81_3_b x81_3_l x81_3_c] ⟨t4, 0, none⟩ 0 w fun w1 =>
    LdI .i64 ⟨t4, 0, none⟩ w1 fun r_0 =>
    LdI .i64 ⟨t4, 1, none⟩ w1 fun r_1 =>
    LdI .i64 ⟨t4, 2, none⟩ w1 fun r_2 =>
    LdL ⟨t4, 3, none⟩ w1 fun r_3_b r_3_l r_3_c =>
    R r_0 r_1 r_2 r_3_b r_3_l r_3_c (9 : Int) w1) (
    Pn pkt_b fun a =>
    (0 ≤ (2 : Int) ∧ (2 : Int) < ((pkt_l : Nat) : Int)) ∧
    LdI .u8 (a.add 2) w.drew fun x84 =>
    Pn p fun a_1 =>
    LdI .i64 a_1 w.drew fun x89 =>
    Pn pkt_b fun a_2 =>
    (0 ≤ (0 : Int) ∧ (0 : Int) < ((pkt_l : Nat) : Int)) ∧
    LdI .u8 a_2 w.drew fun x92 =>
    New (.cells #[.int .i64 (0 : Int), .int .i64 (0 : Int), .int .i64 (0 : Int), .slice none 0 0] 173) w.drew fun up_ w2 =>
    w2.cell? a_2 = some (.int .u8 x92) ∧
    w2.cell? a_1 = some (.int .i64 x89) ∧
    w2.cell? (a.add 2) = some (.int .u8 x84) ∧
    Sts [.int .i64 (IntKind.i64.wrap x84), .int .i64 x89, .int .i64 (IntKind.i64.wrap x92), .slice none 0 0] ⟨up_, 0, none⟩ 0 w2 fun w3 =>
    Bm (off == (0 : Int)) (
      sB2 p pkt_b pkt_l pkt_c t4 none0 off more end0 up_ (!more) w3) (
      sB2 p pkt_b pkt_l pkt_c t4 none0 off more end0 up_ false w3))) = kstep Tryz.prog 214 Tryz.f114.results.toList (Tryz.f114.body.getD .skip) (ip_IP_Input.RV R) (kvc Tryz.prog 214 Tryz.f114.results.toList (Tryz.f114.body.getD .skip) (ip_IP_Input.RV R) [([(0, [1, 1, 1, 1, 1, 1, 1, 1, 1, 1, 1, 1, 1, 1, 1, 0, 1]), (0, [1, 1, 1, 1, 1, 1, 1, 1, 1, 1, 1, 1, 1, 1, 1, 1])], fun σ w => dP (slotOf σ 0) fun p_ => dL (slotOf σ 1) fun pkt_b_ pkt_l_ pkt_c_ => dK (slotOf σ 4) fun t4_ => dK (slotOf σ 6) fun none0_ => dI .i64 (slotOf σ 9) fun off_ => dB (slotOf σ 10) fun more_ => dI .i64 (slotOf σ 11) fun end0_ => dK (slotOf σ 12) fun up_ => dB (slotOf σ 100) fun t100_ => sB2 p_ pkt_b_ pkt_l_ pkt_c_ t4_ none0_ off_ more_ end0_ up_ t100_ w)] 2000) [(0, [1, 1, 1, 1, 1, 1, 1, 1, 1, 1, 1, 1, 1, 0, 1]), (0, [1, 1, 1, 1, 1, 1, 1, 1, 1, 1, 1, 1, 1, 1])] [(0, .pointer p), (1, .slice pkt_b pkt_l pkt_c), (4, .pointer (some ⟨t4, 0, none⟩)), (6, .pointer (some ⟨none0, 0, none⟩)), (9, .int .i64 off), (10, .bool more), (11, .int .i64 end0), (80, .bool t80)] w := by kernel_rfl
theorem ip_IP_Input.B1_sound {R : Int → Int → Int → Option Addr → Nat → Nat → Int → World → Prop}  (p pkt_b : Option Addr) (pkt_l pkt_c t4 none0 : Nat) (off : Int) (more : Bool) (end0 : Int) (t80 : Bool) (w : World) (h : ip_IP_Input.B1 p pkt_b pkt_l pkt_c t4 none0 off more end0 t80 w   R) :
    KW Tryz.prog 114 214 (ip_IP_Input.RV R) ([(0, [1, 1, 1, 1, 1, 1, 1, 1, 1, 1, 1, 1, 1, 0, 1]), (0, [1, 1, 1, 1, 1, 1, 1, 1, 1, 1, 1, 1, 1, 1])].map (toItem (Tryz.f114.body.getD .skip))) [(0, .pointer p), (1, .slice pkt_b pkt_l pkt_c), (4, .pointer (some ⟨t4, 0, none⟩)), (6, .pointer (some ⟨none0, 0, none⟩)), (9, .int .i64 off), (10, .bool more), (11, .int .i64 end0), (80, .bool t80)] w := by
  exact block_spec Tryz.func114 Tryz.mixed (stops_cons (fun σ w h => by
      obtain ⟨p_, e0, h⟩ := dP_elim h
      obtain ⟨pkt_b_, pkt_l_, pkt_c_, e1, h⟩ := dL_elim h
      obtain ⟨t4_, e2, h⟩ := dK_elim h
      obtain ⟨none0_, e3, h⟩ := dK_elim h
      obtain ⟨off_, e4, h⟩ := dI_elim h
      obtain ⟨more_, e5, h⟩ := dB_elim h
      obtain ⟨end0_, e6, h⟩ := dI_elim h
      obtain ⟨up_, e7, h⟩ := dK_elim h
      obtain ⟨t100_, e8, h⟩ := dB_elim h
      exact (ip_IP_Input.B2_sound  p_ pkt_b_ pkt_l_ pkt_c_ t4_ none0_ off_ more_ end0_ up_ t100_ w h).weaken (Sub.cons (Sub.cons (Sub.cons (Sub.cons (Sub.cons (Sub.cons (Sub.cons (Sub.cons (Sub.cons (Sub.nil _) e8) e7) e6) e5) e4) e3) e2) e1) e0)) stops_nil) (Eq.mp (ip_IP_Input.B1_eq p pkt_b pkt_l pkt_c t4 none0 off more end0 t80 w   R (fun p_ pkt_b_ pkt_l_ pkt_c_ t4_ none0_ off_ more_ end0_ up_ t100_ w => ip_IP_Input.B2 p_ pkt_b_ pkt_l_ pkt_c_ t4_ none0_ off_ more_ end0_ up_ t100_ w  R)) h)
def ip_IP_Input.B0 (p pkt_b : Option Addr) (pkt_l pkt_c : Nat) (w : World)   (R : Int → Int → Int → Option Addr → Nat → Nat → Int → World → Prop) : Prop :=
  New (.cells #[.int .i64 (0 : Int), .int .i64 (0 : Int), .int .i64 (0 : Int), .slice none 0 0] 173) w fun b4 w1 =>
  New (.cells #[.int .i64 (0 : Int), .int .i64 (0 : Int), .int .i64 (0 : Int), .slice none 0 0] 173) w1 fun none0_ w2 =>
  Sts [.int .i64 (0 : Int), .int .i64 (0 : Int), .int .i64 (0 : Int), .slice none 0 0] ⟨none0_, 0, none⟩ 0 w2 fun w3 =>
  Bm (decide (((pkt_l : Nat) : Int) < (8 : Int))) (
    LdI .i64 ⟨none0_, 0, none⟩ w3 fun x22_0 =>
    LdI .i64 ⟨none0_, 1, none⟩ w3 fun x22_1 =>
    LdI .i64 ⟨none0_, 2, none⟩ w3 fun x22_2 =>
    LdL ⟨none0_, 3, none⟩ w3 fun x22_3_b x22_3_l x22_3_c =>
    Sts [.int .i64 x22_0, .int .i64 x22_1, .int .i64 x22_2, .slice x22_3_b x22_3_l x22_3_c] ⟨b4, 0, none⟩ 0 w3 fun w4 =>
    LdI .i64 ⟨b4, 0, none⟩ w4 fun r_0 =>
    LdI .i64 ⟨b4, 1, none⟩ w4 fun r_1 =>
    LdI .i64 ⟨b4, 2, none⟩ w4 fun r_2 =>
    LdL ⟨b4, 3, none⟩ w4 fun r_3_b r_3_l r_3_c =>
    R r_0 r_1 r_2 r_3_b r_3_l r_3_c (1 : Int) w4) (
    Pn pkt_b fun a =>
    (0 ≤ (6 : Int) ∧ (6 : Int) < ((pkt_l : Nat) : Int)) ∧
    LdI .u8 (a.add 6) w3 fun x25 =>
    Bm ((IntKind.i64.wrap x25) != (IntKind.i64.wrap (((pkt_l : Nat) : Int) - (8 : Int)))) (
      LdI .i64 ⟨none0_, 0, none⟩ w3 fun x32_0 =>
      LdI .i64 ⟨none0_, 1, none⟩ w3 fun x32_1 =>
      LdI .i64 ⟨none0_, 2, none⟩ w3 fun x32_2 =>
      LdL ⟨none0_, 3, none⟩ w3 fun x32_3_b x32_3_l x32_3_c =>
      Sts [.int .i64 x32_0, .int .i64 x32_1, .int .i64 x32_2, .slice x32_3_b x32_3_l x32_3_c] ⟨b4, 0, none⟩ 0 w3 fun w5 =>
      LdI .i64 ⟨b4, 0, none⟩ w5 fun r_0_1 =>
      LdI .i64 ⟨b4, 1, none⟩ w5 fun r_1_1 =>
      LdI .i64 ⟨b4, 2, none⟩ w5 fun r_2_1 =>
      LdL ⟨b4, 3, none⟩ w5 fun r_3_b_1 r_3_l_1 r_3_c_1 =>
      R r_0_1 r_1_1 r_2_1 r_3_b_1 r_3_l_1 r_3_c_1 (3 : Int) w5) (
      ip_sumOf.Call pkt_b pkt_l pkt_c w3 fun r34 w6 =>
      Pn pkt_b fun a_1 =>
      (0 ≤ (7 : Int) ∧ (7 : Int) < ((pkt_l : Nat) : Int)) ∧
      LdI .u8 (a_1.add 7) w6 fun x38 =>
      Bm (r34 != x38) (
        LdI .i64 ⟨none0_, 0, none⟩ w6 fun x40_0 =>
        LdI .i64 ⟨none0_, 1, none⟩ w6 fun x40_1 =>
        LdI .i64 ⟨none0_, 2, none⟩ w6 fun x40_2 =>
        LdL ⟨none0_, 3, none⟩ w6 fun x40_3_b x40_3_l x40_3_c =>
        Sts [.int .i64 x40_0, .int .i64 x40_1, .int .i64 x40_2, .slice x40_3_b x40_3_l x40_3_c] ⟨b4, 0, none⟩ 0 w6 fun w7 =>
        LdI .i64 ⟨b4, 0, none⟩ w7 fun r_0_2 =>
        LdI .i64 ⟨b4, 1, none⟩ w7 fun r_1_2 =>
        LdI .i64 ⟨b4, 2, none⟩ w7 fun r_2_2 =>
        LdL ⟨b4, 3, none⟩ w7 fun r_3_b_2 r_3_l_2 r_3_c_2 =>
        R r_0_2 r_1_2 r_2_2 r_3_b_2 r_3_l_2 r_3_c_2 (4 : Int) w7) (
        Pn pkt_b fun a_2 =>
        (0 ≤ (1 : Int) ∧ (1 : Int) < ((pkt_l : Nat) : Int)) ∧
        LdI .u8 (a_2.add 1) w6 fun x43 =>
        Bm (x43 == (0 : Int)) (
          LdI .i64 ⟨none0_, 0, none⟩ w6 fun x45_0 =>
          LdI .i64 ⟨none0_, 1, none⟩ w6 fun x45_1 =>
          LdI .i64 ⟨none0_, 2, none⟩ w6 fun x45_2 =>
          LdL ⟨none0_, 3, none⟩ w6 fun x45_3_b x45_3_l x45_3_c =>
          Sts [.int .i64 x45_0, .int .i64 x45_1, .int .i64 x45_2, .slice x45_3_b x45_3_l x45_3_c] ⟨b4, 0, none⟩ 0 w6 fun w8 =>
          LdI .i64 ⟨b4, 0, none⟩ w8 fun r_0_3 =>
          LdI .i64 ⟨b4, 1, none⟩ w8 fun r_1_3 =>
          LdI .i64 ⟨b4, 2, none⟩ w8 fun r_2_3 =>
          LdL ⟨b4, 3, none⟩ w8 fun r_3_b_3 r_3_l_3 r_3_c_3 =>
          R r_0_3 r_1_3 r_2_3 r_3_b_3 r_3_l_3 r_3_c_3 (8 : Int) w8) (
          Pn pkt_b fun a_3 =>
          (0 ≤ (3 : Int) ∧ (3 : Int) < ((pkt_l : Nat) : Int)) ∧
          LdI .u8 (a_3.add 3) w6.drew fun x48 =>
          Pn p fun a_4 =>
          LdI .i64 a_4 w6.drew fun x53 =>
          Bm ((IntKind.i64.wrap x48) != x53) (
            LdI .i64 ⟨none0_, 0, none⟩ w6.drew fun x55_0 =>
            LdI .i64 ⟨none0_, 1, none⟩ w6.drew fun x55_1 =>
            LdI .i64 ⟨none0_, 2, none⟩ w6.drew fun x55_2 =>
            LdL ⟨none0_, 3, none⟩ w6.drew fun x55_3_b x55_3_l x55_3_c =>
            Sts [.int .i64 x55_0, .int .i64 x55_1, .int .i64 x55_2, .slice x55_3_b x55_3_l x55_3_c] ⟨b4, 0, none⟩ 0 w6.drew fun w9 =>
            LdI .i64 ⟨b4, 0, none⟩ w9 fun r_0_4 =>
            LdI .i64 ⟨b4, 1, none⟩ w9 fun r_1_4 =>
            LdI .i64 ⟨b4, 2, none⟩ w9 fun r_2_4 =>
            LdL ⟨b4, 3, none⟩ w9 fun r_3_b_4 r_3_l_4 r_3_c_4 =>
            R r_0_4 r_1_4 r_2_4 r_3_b_4 r_3_l_4 r_3_c_4 (7 : Int) w9) (
            Pn pkt_b fun a_5 =>
            (0 ≤ (5 : Int) ∧ (5 : Int) < ((pkt_l : Nat) : Int)) ∧
            LdI .u8 (a_5.add 5) w6.drew fun x58 =>
            Pn pkt_b fun a_6 =>
            (0 ≤ (5 : Int) ∧ (5 : Int) < ((pkt_l : Nat) : Int)) ∧
            LdI .u8 (a_6.add 5) w6.drew fun x63 =>
            Bm (decide ((IntKind.i64.wrap ((IntKind.i64.wrap (IntKind.u8.wrap (BitVec.ofInt IntKind.u8.bits x58 &&& BitVec.ofInt IntKind.u8.bits (127 : Int)).toNat)) + (IntKind.i64.wrap x25))) > (40 : Int))) (
              LdI .i64 ⟨none0_, 0, none⟩ w6.drew fun x71_0 =>
              LdI .i64 ⟨none0_, 1, none⟩ w6.drew fun x71_1 =>
              LdI .i64 ⟨none0_, 2, none⟩ w6.drew fun x71_2 =>
              LdL ⟨none0_, 3, none⟩ w6.drew fun x71_3_b x71_3_l x71_3_c =>
              Sts [.int .i64 x71_0, .int .i64 x71_1, .int .i64 x71_2, .slice x71_3_b x71_3_l x71_3_c] ⟨b4, 0, none⟩ 0 w6.drew fun w10 =>
              LdI .i64 ⟨b4, 0, none⟩ w10 fun r_0_5 =>
              LdI .i64 ⟨b4, 1, none⟩ w10 fun r_1_5 =>
              LdI .i64 ⟨b4, 2, none⟩ w10 fun r_2_5 =>
              LdL ⟨b4, 3, none⟩ w10 fun r_3_b_5 r_3_l_5 r_3_c_5 =>
              R r_0_5 r_1_5 r_2_5 r_3_b_5 r_3_l_5 r_3_c_5 (2 : Int) w10) (
              Bm ((IntKind.i64.wrap x25) == (0 : Int)) (
                Bm ((IntKind.u8.wrap (BitVec.ofInt IntKind.u8.bits x63 &&& BitVec.ofInt IntKind.u8.bits (128 : Int)).toNat) != (0 : Int)) (
                  ip_IP_Input.B1 p pkt_b pkt_l pkt_c b4 none0_ (IntKind.i64.wrap (IntKind.u8.wrap (BitVec.ofInt IntKind.u8.bits x58 &&& BitVec.ofInt IntKind.u8.bits (127 : Int)).toNat)) ((IntKind.u8.wrap (BitVec.ofInt IntKind.u8.bits x63 &&& BitVec.ofInt IntKind.u8.bits (128 : Int)).toNat) != (0 : Int)) (IntKind.i64.wrap ((IntKind.i64.wrap (IntKind.u8.wrap (BitVec.ofInt IntKind.u8.bits x58 &&& BitVec.ofInt IntKind.u8.bits (127 : Int)).toNat)) + (IntKind.i64.wrap x25))) true w6.drew  R) (
                  ip_IP_Input.B1 p pkt_b pkt_l pkt_c b4 none0_ (IntKind.i64.wrap (IntKind.u8.wrap (BitVec.ofInt IntKind.u8.bits x58 &&& BitVec.ofInt IntKind.u8.bits (127 : Int)).toNat)) ((IntKind.u8.wrap (BitVec.ofInt IntKind.u8.bits x63 &&& BitVec.ofInt IntKind.u8.bits (128 : Int)).toNat) != (0 : Int)) (IntKind.i64.wrap ((IntKind.i64.wrap (IntKind.u8.wrap (BitVec.ofInt IntKind.u8.bits x58 &&& BitVec.ofInt IntKind.u8.bits (127 : Int)).toNat)) + (IntKind.i64.wrap x25))) (decide ((IntKind.i64.wrap (IntKind.u8.wrap (BitVec.ofInt IntKind.u8.bits x58 &&& BitVec.ofInt IntKind.u8.bits (127 : Int)).toNat)) > (0 : Int))) w6.drew  R)) (
                ip_IP_Input.B1 p pkt_b pkt_l pkt_c b4 none0_ (IntKind.i64.wrap (IntKind.u8.wrap (BitVec.ofInt IntKind.u8.bits x58 &&& BitVec.ofInt IntKind.u8.bits (127 : Int)).toNat)) ((IntKind.u8.wrap (BitVec.ofInt IntKind.u8.bits x63 &&& BitVec.ofInt IntKind.u8.bits (128 : Int)).toNat) != (0 : Int)) (IntKind.i64.wrap ((IntKind.i64.wrap (IntKind.u8.wrap (BitVec.ofInt IntKind.u8.bits x58 &&& BitVec.ofInt IntKind.u8.bits (127 : Int)).toNat)) + (IntKind.i64.wrap x25))) false w6.drew  R)))))))
theorem ip_IP_Input.B0_eq (p pkt_b : Option Addr) (pkt_l pkt_c : Nat) (w : World)   (R : Int → Int → Int → Option Addr → Nat → Nat → Int → World → Prop) (sB1 : Option Addr → Option Addr → Nat → Nat → Nat → Nat → Int → Bool → Int → Bool → World → Prop) :
    (
  New (.cells #[.int .i64 (0 : Int), .int .i64 (0 : Int), .int .i64 (0 : Int), .slice none 0 0] 173) w fun b4 w1 =>
  New (.cells #[.int .i64 (0 : Int), .int .i64 (0 : Int), .int .i64 (0 : Int), .slice none 0 0] 173) w1 fun none0_ w2 =>
  Sts [.int .i64 (0 : Int), .int .i64 (0 : Int), .int .i64 (0 : Int), .slice none 0 0] ⟨none0_, 0, none⟩ 0 w2 fun w3 =>
  Bm (decide (((pkt_l : Nat) : Int) < (8 : Int))) (
    LdI .i64 ⟨none0_, 0, none⟩ w3 fun x22_0 =>
    LdI .i64 ⟨none0_, 1, none⟩ w3 fun x22_1 =>
    LdI .i64 ⟨none0_, 2, none⟩ w3 fun x22_2 =>
    LdL ⟨none0_, 3, none⟩ w3 fun x22_3_b x22_3_l x22_3_c =>
    Sts [.int .i64 x22_0, .int .i64 x22_1, .int .i64 x22_2, .slice x22_3_b x22_3_l x22_3_c] ⟨b4, 0, none⟩ 0 w3 fun w4 =>
    LdI .i64 ⟨b4, 0, none⟩ w4 fun r_0 =>
    LdI .i64 ⟨b4, 1, none⟩ w4 fun r_1 =>
    LdI .i64 ⟨b4, 2, none⟩ w4 fun r_2 =>
    LdL ⟨b4, 3, none⟩ w4 fun r_3_b r_3_l r_3_c =>
    R r_0 r_1 r_2 r_3_b r_3_l r_3_c (1 : Int) w4) (
    Pn pkt_b fun a =>
    (0 ≤ (6 : Int) ∧ (6 : Int) < ((pkt_l : Nat) : Int)) ∧
    LdI .u8 (a.add 6) w3 fun x25 =>
    Bm ((IntKind.i64.wrap x25) != (IntKind.i64.wrap (((pkt_l : Nat) : Int) - (8 : Int)))) (
      LdI .i64 ⟨none0_, 0, none⟩ w3 fun x32_0 =>
      LdI .i64 ⟨none0_, 1, none⟩ w3 fun x32_1 =>
      LdI .i64 ⟨none0_, 2, none⟩ w3 fun x32_2 =>
      LdL ⟨none0_, 3, none⟩ w3 fun x32_3_b x32_3_l x32_3_c =>
      Sts [.int .i64 x32_0, .int .i64 x32_1, .int .i64 x32_2, .slice x32_3_b x32_3_l x32_3_c] ⟨b4, 0, none⟩ 0 w3 fun w5 =>
      LdI .i64 ⟨b4, 0, none⟩ w5 fun r_0_1 =>
      LdI .i64 ⟨b4, 1, none⟩ w5 fun r_1_1 =>
      LdI .i64 ⟨b4, 2, none⟩ w5 fun r_2_1 =>
      LdL ⟨b4, 3, none⟩ w5 fun r_3_b_1 r_3_l_1 r_3_c_1 =>
      R r_0_1 r_1_1 r_2_1 r_3_b_1 r_3_l_1 r_3_c_1 (3 : Int) w5) (
      ip_sumOf.Call pkt_b pkt_l pkt_c w3 fun r34 w6 =>
      Pn pkt_b fun a_1 =>
      (0 ≤ (7 : Int) ∧ (7 : Int) < ((pkt_l : Nat) : Int)) ∧
      LdI .u8 (a_1.add 7) w6 fun x38 =>
      Bm (r34 != x38) (
        LdI .i64 ⟨none0_, 0, none⟩ w6 fun x40_0 =>
        LdI .i64 ⟨none0_, 1, none⟩ w6 fun x40_1 =>
        LdI .i64 ⟨none0_, 2, none⟩ w6 fun x40_2 =>
        LdL ⟨none0_, 3, none⟩ w6 fun x40_3_b x40_3_l x40_3_c =>
        Sts [.int .i64 x40_0, .int .i64 x40_1, .int .i64 x40_2, .slice x40_3_b x40_3_l x40_3_c] ⟨b4, 0, none⟩ 0 w6 fun w7 =>
        LdI .i64 ⟨b4, 0, none⟩ w7 fun r_0_2 =>
        LdI .i64 ⟨b4, 1, none⟩ w7 fun r_1_2 =>
        LdI .i64 ⟨b4, 2, none⟩ w7 fun r_2_2 =>
        LdL ⟨b4, 3, none⟩ w7 fun r_3_b_2 r_3_l_2 r_3_c_2 =>
        R r_0_2 r_1_2 r_2_2 r_3_b_2 r_3_l_2 r_3_c_2 (4 : Int) w7) (
        Pn pkt_b fun a_2 =>
        (0 ≤ (1 : Int) ∧ (1 : Int) < ((pkt_l : Nat) : Int)) ∧
        LdI .u8 (a_2.add 1) w6 fun x43 =>
        Bm (x43 == (0 : Int)) (
          LdI .i64 ⟨none0_, 0, none⟩ w6 fun x45_0 =>
          LdI .i64 ⟨none0_, 1, none⟩ w6 fun x45_1 =>
          LdI .i64 ⟨none0_, 2, none⟩ w6 fun x45_2 =>
          LdL ⟨none0_, 3, none⟩ w6 fun x45_3_b x45_3_l x45_3_c =>
          Sts [.int .i64 x45_0, .int .i64 x45_1, .int .i64 x45_2, .slice x45_3_b x45_3_l x45_3_c] ⟨b4, 0, none⟩ 0 w6 fun w8 =>
          LdI .i64 ⟨b4, 0, none⟩ w8 fun r_0_3 =>
          LdI .i64 ⟨b4, 1, none⟩ w8 fun r_1_3 =>
          LdI .i64 ⟨b4, 2, none⟩ w8 fun r_2_3 =>
          LdL ⟨b4, 3, none⟩ w8 fun r_3_b_3 r_3_l_3 r_3_c_3 =>
          R r_0_3 r_1_3 r_2_3 r_3_b_3 r_3_l_3 r_3_c_3 (8 : Int) w8) (
          Pn pkt_b fun a_3 =>
          (0 ≤ (3 : Int) ∧ (3 : Int) < ((pkt_l : Nat) : Int)) ∧
          LdI .u8 (a_3.add 3) w6.drew fun x48 =>
          Pn p fun a_4 =>
          LdI .i64 a_4 w6.drew fun x53 =>
          Bm ((IntKind.i64.wrap x48) != x53) (
            LdI .i64 ⟨none0_, 0, none⟩ w6.drew fun x55_0 =>
            LdI .i64 ⟨none0_, 1, none⟩ w6.drew fun x55_1 =>
            LdI .i64 ⟨none0_, 2, none⟩ w6.drew fun x55_2 =>
            LdL ⟨none0_, 3, none⟩ w6.drew fun x55_3_b x55_3_l x55_3_c =>
            Sts [.int .i64 x55_0, .int .i64 x55_1, .int .i64 x55_2, .slice x55_3_b x55_3_l x55_3_c] ⟨b4, 0, none⟩ 0 w6.drew fun w9 =>
            LdI .i64 ⟨b4, 0, none⟩ w9 fun r_0_4 =>
            LdI .i64 ⟨b4, 1, none⟩ w9 fun r_1_4 =>
            LdI .i64 ⟨b4, 2, none⟩ w9 fun r_2_4 =>
            LdL ⟨b4, 3, none⟩ w9 fun r_3_b_4 r_3_l_4 r_3_c_4 =>
            R r_0_4 r_1_4 r_2_4 r_3_b_4 r_3_l_4 r_3_c_4 (7 : Int) w9) (
            Pn pkt_b fun a_5 =>
            (0 ≤ (5 : Int) ∧ (5 : Int) < ((pkt_l : Nat) : Int)) ∧
            LdI .u8 (a_5.add 5) w6.drew fun x58 =>
            Pn pkt_b fun a_6 =>
            (0 ≤ (5 : Int) ∧ (5 : Int) < ((pkt_l : Nat) : Int)) ∧
            LdI .u8 (a_6.add 5) w6.drew fun x63 =>
            Bm (decide ((IntKind.i64.wrap ((IntKind.i64.wrap (IntKind.u8.wrap (BitVec.ofInt IntKind.u8.bits x58 &&& BitVec.ofInt IntKind.u8.bits (127 : Int)).toNat)) + (IntKind.i64.wrap x25))) > (40 : Int))) (
              LdI .i64 ⟨none0_, 0, none⟩ w6.drew fun x71_0 =>
              LdI .i64 ⟨none0_, 1, none⟩ w6.drew fun x71_1 =>
              LdI .i64 ⟨none0_, 2, none⟩ w6.drew fun x71_2 =>
              LdL ⟨none0_, 3, none⟩ w6.drew fun x71_3_b x71_3_l x71_3_c =>
              Sts [.int .i64 x71_0, .int .i64 x71_1, .int .i64 x71_2, .slice x71_3_b x71_3_l x71_3_c] ⟨b4, 0, none⟩ 0 w6.drew fun w10 =>
              LdI .i64 ⟨b4, 0, none⟩ w10 fun r_0_5 =>
              LdI .i64 ⟨b4, 1, none⟩ w10 fun r_1_5 =>
              LdI .i64 ⟨b4, 2, none⟩ w10 fun r_2_5 =>
              LdL ⟨b4, 3, none⟩ w10 fun r_3_b_5 r_3_l_5 r_3_c_5 =>
              R r_0_5 r_1_5 r_2_5 r_3_b_5 r_3_l_5 r_3_c_5 (2 : Int) w10) (
              Bm ((IntKind.i64.wrap x25) == (0 : Int)) (
                Bm ((IntKind.u8.wrap (BitVec.ofInt IntKind.u8.bits x63 &&& BitVec.ofInt IntKind.u8.bits (128 : Int)).toNat) != (0 : Int)) (
                  sB1 p pkt_b pkt_l pkt_c b4 none0_ (IntKind.i64.wrap (IntKind.u8.wrap (BitVec.ofInt IntKind.u8.bits x58 &&& BitVec.ofInt IntKind.u8.bits (127 : Int)).toNat)) ((IntKind.u8.wrap (BitVec.ofInt IntKind.u8.bits x63 &&& BitVec.ofInt IntKind.u8.bits (128 : Int)).toNat) != (0 : Int)) (IntKind.i64.wrap ((IntKind.i64.wrap (IntKind.u8.wrap (BitVec.ofInt IntKind.u8.bits x58 &&& BitVec.ofInt IntKind.u8.bits (127 : Int)).toNat)) + (IntKind.i64.wrap x25))) true w6.drew) (
                  sB1 p pkt_b pkt_l pkt_c b4 none0_ (IntKind.i64.wrap (IntKind.u8.wrap (BitVec.ofInt IntKind.u8.bits x58 &&& BitVec.ofInt IntKind.u8.bits (127 : Int)).toNat)) ((IntKind.u8.wrap (BitVec.ofInt IntKind.u8.bits x63 &&& BitVec.ofInt IntKind.u8.bits (128 : Int)).toNat) != (0 : Int)) (IntKind.i64.wrap ((IntKind.i64.wrap (IntKind.u8.wrap (BitVec.ofInt IntKind.u8.bits x58 &&& BitVec.ofInt IntKind.u8.bits (127 : Int)).toNat)) + (IntKind.i64.wrap x25))) (decide ((IntKind.i64.wrap (IntKind.u8.wrap (BitVec.ofInt IntKind.u8.bits x58 &&& BitVec.ofInt IntKind.u8.bits (127 : Int)).toNat)) > (0 : Int))) w6.drew)) (
                sB1 p pkt_b pkt_l pkt_c b4 none0_ (IntKind.i64.wrap (IntKind.u8.wrap (BitVec.ofInt IntKind.u8.bits x58 &&& BitVec.ofInt IntKind.u8.bits (127 : Int)).toNat)) ((IntKind.u8.wrap (BitVec.ofInt IntKind.u8.bits x63 &&& BitVec.ofInt IntKind.u8.bits (128 : Int)).toNat) != (0 : Int)) (IntKind.i64.wrap ((IntKind.i64.wrap (IntKind.u8.wrap (BitVec.ofInt IntKind.u8.bits x58 &&& BitVec.ofInt IntKind.u8.bits (127 : Int)).toNat)) + (IntKind.i64.wrap x25))) false w6.drew)))))))) = kstep Tryz.prog 214 Tryz.f114.results.toList (Tryz.f114.body.getD .skip) (ip_IP_Input.RV R) (kvc Tryz.prog 214 Tryz.f114.results.toList (Tryz.f114.body.getD .skip) (ip_IP_Input.RV R) [([(0, [1, 1, 1, 1, 1, 1, 1, 1, 1, 1, 1, 1, 1, 0, 1]), (0, [1, 1, 1, 1, 1, 1, 1, 1, 1, 1, 1, 1, 1, 1])], fun σ w => dP (slotOf σ 0) fun p_ => dL (slotOf σ 1) fun pkt_b_ pkt_l_ pkt_c_ => dK (slotOf σ 4) fun t4_ => dK (slotOf σ 6) fun none0_ => dI .i64 (slotOf σ 9) fun off_ => dB (slotOf σ 10) fun more_ => dI .i64 (slotOf σ 11) fun end0_ => dB (slotOf σ 80) fun t80_ => sB1 p_ pkt_b_ pkt_l_ pkt_c_ t4_ none0_ off_ more_ end0_ t80_ w)] 2000) [(0, [])] [(0, .pointer p), (1, .slice pkt_b pkt_l pkt_c)] w := by kernel_rfl
theorem ip_IP_Input.B0_sound {R : Int → Int → Int → Option Addr → Nat → Nat → Int → World → Prop}  (p pkt_b : Option Addr) (pkt_l pkt_c : Nat) (w : World) (h : ip_IP_Input.B0 p pkt_b pkt_l pkt_c w   R) :
    KW Tryz.prog 114 214 (ip_IP_Input.RV R) ([(0, [])].map (toItem (Tryz.f114.body.getD .skip))) [(0, .pointer p), (1, .slice pkt_b pkt_l pkt_c)] w := by
  exact block_spec Tryz.func114 Tryz.mixed (stops_cons (fun σ w h => by
      obtain ⟨p_, e0, h⟩ := dP_elim h
      obtain ⟨pkt_b_, pkt_l_, pkt_c_, e1, h⟩ := dL_elim h
      obtain ⟨t4_, e2, h⟩ := dK_elim h
      obtain ⟨none0_, e3, h⟩ := dK_elim h
      obtain ⟨off_, e4, h⟩ := dI_elim h
      obtain ⟨more_, e5, h⟩ := dB_elim h
      obtain ⟨end0_, e6, h⟩ := dI_elim h
      obtain ⟨t80_, e7, h⟩ := dB_elim h
      exact (ip_IP_Input.B1_sound  p_ pkt_b_ pkt_l_ pkt_c_ t4_ none0_ off_ more_ end0_ t80_ w h).weaken (Sub.cons (Sub.cons (Sub.cons (Sub.cons (Sub.cons (Sub.cons (Sub.cons (Sub.cons (Sub.nil _) e7) e6) e5) e4) e3) e2) e1) e0)) stops_nil) (Eq.mp (ip_IP_Input.B0_eq p pkt_b pkt_l pkt_c w   R (fun p_ pkt_b_ pkt_l_ pkt_c_ t4_ none0_ off_ more_ end0_ t80_ w => ip_IP_Input.B1 p_ pkt_b_ pkt_l_ pkt_c_ t4_ none0_ off_ more_ end0_ t80_ w  R)) h)
theorem ip_IP_Input.sound (p pkt_b : Option Addr) (pkt_l pkt_c : Nat) (w : World) (R : Int → Int → Int → Option Addr → Nat → Nat → Int → World → Prop) (h : ip_IP_Input.B0 p pkt_b pkt_l pkt_c w R) : ip_IP_Input.Call p pkt_b pkt_l pkt_c w R := by
  have hc := calls_of_block (args := #[.pointer p, .slice pkt_b pkt_l pkt_c]) Tryz.func114 (body := (Tryz.f114.body.getD .skip)) (by kernel_rfl) (by kernel_rfl) (args_slot _) (ip_IP_Input.B0_sound p pkt_b pkt_l pkt_c w h)
  exact hc.mono fun e w' he => by
    obtain ⟨v, rfl, hv⟩ := he
    exact ip_IP_Input.RV_elim hv
end Go.Proofs.Qxb6500424aGreat
