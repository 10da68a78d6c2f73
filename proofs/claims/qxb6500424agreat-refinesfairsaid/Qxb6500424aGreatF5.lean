import Derived.Test.Qxb6500424aGreatSig
set_option maxRecDepth 100000
set_option linter.unusedVariables false
open Go.Vc
namespace Go.Proofs.Qxb6500424aGreat
def hostlaw_World_waits.B1 (w0 : Option Addr) (c sd i : Int) (t38 : Bool) (w : World) (N1 : Option Addr → Int → Int → Int → World → Prop)  (R : Int → World → Prop) : Prop :=
  Bm t38 (
    R i w) (
    N1 w0 c sd (IntKind.i64.wrap (i + (1 : Int))) w)
theorem hostlaw_World_waits.B1_eq (w0 : Option Addr) (c sd i : Int) (t38 : Bool) (w : World) (N1 : Option Addr → Int → Int → Int → World → Prop)  (R : Int → World → Prop)  :
    (
  Bm t38 (
    R i w) (
    N1 w0 c sd (IntKind.i64.wrap (i + (1 : Int))) w)) = kstep Tryz.prog 40 Tryz.f34.results.toList (Tryz.f34.body.getD .skip) (hostlaw_World_waits.RV R) (kvc Tryz.prog 40 Tryz.f34.results.toList (Tryz.f34.body.getD .skip) (hostlaw_World_waits.RV R) [([(0, [1, 0, 1, 0, 0]), (2, [1, 0, 1, 0, 0]), (1, [0]), (0, [1, 1])], fun σ w => dP (slotOf σ 0) fun w0_ => dI .i64 (slotOf σ 1) fun c_ => dI .i64 (slotOf σ 2) fun sd_ => dI .i64 (slotOf σ 7) fun i_ => N1 w0_ c_ sd_ i_ w)] 2000) [(0, [1, 0, 1, 0, 0, 1, 0, 0, 1]), (1, [1]), (0, [1, 0, 1, 0, 0, 1, 1]), (2, [1, 0, 1, 0, 0]), (1, [0]), (0, [1, 1])] [(0, .pointer w0), (1, .int .i64 c), (2, .int .i64 sd), (7, .int .i64 i), (38, .bool t38)] w := by kernel_rfl
theorem hostlaw_World_waits.B1_sound {R : Int → World → Prop} {N1 : Option Addr → Int → Int → Int → World → Prop} (hN1 : ∀ w0 c sd i w, N1 w0 c sd i w → KW Tryz.prog 34 40 (hostlaw_World_waits.RV R) ([(0, [1, 0, 1, 0, 0]), (2, [1, 0, 1, 0, 0]), (1, [0]), (0, [1, 1])].map (toItem (Tryz.f34.body.getD .skip))) [(0, .pointer w0), (1, .int .i64 c), (2, .int .i64 sd), (7, .int .i64 i)] w) (w0 : Option Addr) (c sd i : Int) (t38 : Bool) (w : World) (h : hostlaw_World_waits.B1 w0 c sd i t38 w N1  R) :
    KW Tryz.prog 34 40 (hostlaw_World_waits.RV R) ([(0, [1, 0, 1, 0, 0, 1, 0, 0, 1]), (1, [1]), (0, [1, 0, 1, 0, 0, 1, 1]), (2, [1, 0, 1, 0, 0]), (1, [0]), (0, [1, 1])].map (toItem (Tryz.f34.body.getD .skip))) [(0, .pointer w0), (1, .int .i64 c), (2, .int .i64 sd), (7, .int .i64 i), (38, .bool t38)] w := by
  exact block_spec Tryz.func34 Tryz.mixed (stops_cons (fun σ w h => by
      obtain ⟨w0_, e0, h⟩ := dP_elim h
      obtain ⟨c_, e1, h⟩ := dI_elim h
      obtain ⟨sd_, e2, h⟩ := dI_elim h
      obtain ⟨i_, e3, h⟩ := dI_elim h
      exact (hN1 w0_ c_ sd_ i_ w h).weaken (Sub.cons (Sub.cons (Sub.cons (Sub.cons (Sub.nil _) e3) e2) e1) e0)) stops_nil) (Eq.mp (hostlaw_World_waits.B1_eq w0 c sd i t38 w N1  R ) h)
def hostlaw_World_waits.L1b (w0 : Option Addr) (c sd i : Int) (w : World)  (N1 : Option Addr → Int → Int → Int → World → Prop) (R : Int → World → Prop) : Prop :=
  Pn w0 fun a =>
  LdL (a.add 46) w fun x12_b x12_l x12_c =>
  Bm (decide (i < ((x12_l : Nat) : Int))) (
    Pn w0 fun a_1 =>
    LdL (a_1.add 46) w fun x20_b x20_l x20_c =>
    Pn x20_b fun a_2 =>
    (0 ≤ i ∧ i < ((x20_l : Nat) : Int)) ∧
    LdI .i64 (Addr.add a_2 (i.toNat * 3)) w fun x24 =>
    Bm (x24 == c) (
      Pn w0 fun a_3 =>
      LdL (a_3.add 46) w fun x31_b x31_l x31_c =>
      Pn x31_b fun a_4 =>
      (0 ≤ i ∧ i < ((x31_l : Nat) : Int)) ∧
      LdI .i64 ((Addr.add a_4 (i.toNat * 3)).add 1) w fun x35 =>
      hostlaw_World_waits.B1 w0 c sd i (x35 == sd) w N1 R) (
      hostlaw_World_waits.B1 w0 c sd i false w N1 R)) (
    R (-1 : Int) w)
theorem hostlaw_World_waits.L1b_eq (w0 : Option Addr) (c sd i : Int) (w : World)  (N1 : Option Addr → Int → Int → Int → World → Prop) (R : Int → World → Prop) (sB1 : Option Addr → Int → Int → Int → Bool → World → Prop) :
    (
  Pn w0 fun a =>
  LdL (a.add 46) w fun x12_b x12_l x12_c =>
  Bm (decide (i < ((x12_l : Nat) : Int))) (
    Pn w0 fun a_1 =>
    LdL (a_1.add 46) w fun x20_b x20_l x20_c =>
    Pn x20_b fun a_2 =>
    (0 ≤ i ∧ i < ((x20_l : Nat) : Int)) ∧
    LdI .i64 (Addr.add a_2 (i.toNat * 3)) w fun x24 =>
    Bm (x24 == c) (
      Pn w0 fun a_3 =>
      LdL (a_3.add 46) w fun x31_b x31_l x31_c =>
      Pn x31_b fun a_4 =>
      (0 ≤ i ∧ i < ((x31_l : Nat) : Int)) ∧
      LdI .i64 ((Addr.add a_4 (i.toNat * 3)).add 1) w fun x35 =>
      sB1 w0 c sd i (x35 == sd) w) (
      sB1 w0 c sd i false w)) (
    R (-1 : Int) w)) = kstep Tryz.prog 40 Tryz.f34.results.toList (Tryz.f34.body.getD .skip) (hostlaw_World_waits.RV R) (kvc Tryz.prog 40 Tryz.f34.results.toList (Tryz.f34.body.getD .skip) (hostlaw_World_waits.RV R) [([(0, [1, 0, 1, 0, 0, 1, 0, 0, 1]), (1, [1]), (0, [1, 0, 1, 0, 0, 1, 1]), (2, [1, 0, 1, 0, 0]), (1, [0]), (0, [1, 1])], fun σ w => dP (slotOf σ 0) fun w0_ => dI .i64 (slotOf σ 1) fun c_ => dI .i64 (slotOf σ 2) fun sd_ => dI .i64 (slotOf σ 7) fun i_ => dB (slotOf σ 38) fun t38_ => sB1 w0_ c_ sd_ i_ t38_ w)] 2000) [(0, [1, 0, 1, 0, 0]), (2, [1, 0, 1, 0, 0]), (1, [0]), (0, [1, 1])] [(0, .pointer w0), (1, .int .i64 c), (2, .int .i64 sd), (7, .int .i64 i)] w := by kernel_rfl
theorem hostlaw_World_waits.L1b_sound {R : Int → World → Prop} {N1 : Option Addr → Int → Int → Int → World → Prop} (hN1 : ∀ w0 c sd i w, N1 w0 c sd i w → KW Tryz.prog 34 40 (hostlaw_World_waits.RV R) ([(0, [1, 0, 1, 0, 0]), (2, [1, 0, 1, 0, 0]), (1, [0]), (0, [1, 1])].map (toItem (Tryz.f34.body.getD .skip))) [(0, .pointer w0), (1, .int .i64 c), (2, .int .i64 sd), (7, .int .i64 i)] w) (w0 : Option Addr) (c sd i : Int) (w : World) (h : hostlaw_World_waits.L1b w0 c sd i w  N1 R) :
    KW Tryz.prog 34 40 (hostlaw_World_waits.RV R) ([(0, [1, 0, 1, 0, 0]), (2, [1, 0, 1, 0, 0]), (1, [0]), (0, [1, 1])].map (toItem (Tryz.f34.body.getD .skip))) [(0, .pointer w0), (1, .int .i64 c), (2, .int .i64 sd), (7, .int .i64 i)] w := by
  exact block_spec Tryz.func34 Tryz.mixed (stops_cons (fun σ w h => by
      obtain ⟨w0_, e0, h⟩ := dP_elim h
      obtain ⟨c_, e1, h⟩ := dI_elim h
      obtain ⟨sd_, e2, h⟩ := dI_elim h
      obtain ⟨i_, e3, h⟩ := dI_elim h
      obtain ⟨t38_, e4, h⟩ := dB_elim h
      exact (hostlaw_World_waits.B1_sound hN1 w0_ c_ sd_ i_ t38_ w h).weaken (Sub.cons (Sub.cons (Sub.cons (Sub.cons (Sub.cons (Sub.nil _) e4) e3) e2) e1) e0)) stops_nil) (Eq.mp (hostlaw_World_waits.L1b_eq w0 c sd i w  N1 R (fun w0_ c_ sd_ i_ t38_ w => hostlaw_World_waits.B1 w0_ c_ sd_ i_ t38_ w N1 R)) h)
def hostlaw_World_waits.L1 (w0 : Option Addr) (c sd i : Int) (w : World)  (R : Int → World → Prop) : Prop :=
  ∃ (I : Nat → Option Addr → Int → Int → Int → World → Prop) (m : Nat), I m w0 c sd i w ∧ ∀ m w0 c sd i w, I m w0 c sd i w → hostlaw_World_waits.L1b w0 c sd i w  (fun w0' c' sd' i' w' => ∃ m', m' < m ∧ I m' w0' c' sd' i' w') R
theorem hostlaw_World_waits.L1_sound {R : Int → World → Prop}  (w0 : Option Addr) (c sd i : Int) (w : World) (h : hostlaw_World_waits.L1 w0 c sd i w  R) :
    KW Tryz.prog 34 40 (hostlaw_World_waits.RV R) ([(0, [1, 0, 1, 0, 0]), (2, [1, 0, 1, 0, 0]), (1, [0]), (0, [1, 1])].map (toItem (Tryz.f34.body.getD .skip))) [(0, .pointer w0), (1, .int .i64 c), (2, .int .i64 sd), (7, .int .i64 i)] w := by
  obtain ⟨I, m, hBase, hr⟩ := h
  refine KW.loop (fun m σ w => ∃ (w0 : Option Addr) (c sd i : Int), σ = [(0, .pointer w0), (1, .int .i64 c), (2, .int .i64 sd), (7, .int .i64 i)] ∧ I m w0 c sd i w) ?_ m _ w ⟨w0, c, sd, i, rfl, hBase⟩
  rintro m ih σ w ⟨w0, c, sd, i, rfl, hI⟩
  exact hostlaw_World_waits.L1b_sound  (N1 := fun w0' c' sd' i' w' => ∃ m', m' < m ∧ I m' w0' c' sd' i' w') (fun w0' c' sd' i' w' hx => by obtain ⟨m', hlt, hI'⟩ := hx; exact ih m' hlt _ w' ⟨w0', c', sd', i', rfl, hI'⟩) w0 c sd i w (hr m w0 c sd i w hI)
def hostlaw_World_waits.B0 (w0 : Option Addr) (c sd : Int) (w : World)   (R : Int → World → Prop) : Prop :=
  hostlaw_World_waits.L1 w0 c sd (0 : Int) w  R
theorem hostlaw_World_waits.B0_eq (w0 : Option Addr) (c sd : Int) (w : World)   (R : Int → World → Prop) (sL1 : Option Addr → Int → Int → Int → World → Prop) :
    (
  sL1 w0 c sd (0 : Int) w) = kstep Tryz.prog 40 Tryz.f34.results.toList (Tryz.f34.body.getD .skip) (hostlaw_World_waits.RV R) (kvc Tryz.prog 40 Tryz.f34.results.toList (Tryz.f34.body.getD .skip) (hostlaw_World_waits.RV R) [([(0, [1, 0, 1, 0, 0]), (2, [1, 0, 1, 0, 0]), (1, [0]), (0, [1, 1])], fun σ w => dP (slotOf σ 0) fun w0_ => dI .i64 (slotOf σ 1) fun c_ => dI .i64 (slotOf σ 2) fun sd_ => dI .i64 (slotOf σ 7) fun i_ => sL1 w0_ c_ sd_ i_ w)] 2000) [(0, [])] [(0, .pointer w0), (1, .int .i64 c), (2, .int .i64 sd)] w := by kernel_rfl
theorem hostlaw_World_waits.B0_sound {R : Int → World → Prop}  (w0 : Option Addr) (c sd : Int) (w : World) (h : hostlaw_World_waits.B0 w0 c sd w   R) :
    KW Tryz.prog 34 40 (hostlaw_World_waits.RV R) ([(0, [])].map (toItem (Tryz.f34.body.getD .skip))) [(0, .pointer w0), (1, .int .i64 c), (2, .int .i64 sd)] w := by
  exact block_spec Tryz.func34 Tryz.mixed (stops_cons (fun σ w h => by
      obtain ⟨w0_, e0, h⟩ := dP_elim h
      obtain ⟨c_, e1, h⟩ := dI_elim h
      obtain ⟨sd_, e2, h⟩ := dI_elim h
      obtain ⟨i_, e3, h⟩ := dI_elim h
      exact (hostlaw_World_waits.L1_sound  w0_ c_ sd_ i_ w h).weaken (Sub.cons (Sub.cons (Sub.cons (Sub.cons (Sub.nil _) e3) e2) e1) e0)) stops_nil) (Eq.mp (hostlaw_World_waits.B0_eq w0 c sd w   R (fun w0_ c_ sd_ i_ w => hostlaw_World_waits.L1 w0_ c_ sd_ i_ w  R)) h)
theorem hostlaw_World_waits.sound (w0 : Option Addr) (c sd : Int) (w : World) (R : Int → World → Prop) (h : hostlaw_World_waits.B0 w0 c sd w R) : hostlaw_World_waits.Call w0 c sd w R := by
  have hc := calls_of_block (args := #[.pointer w0, .int .i64 c, .int .i64 sd]) Tryz.func34 (body := (Tryz.f34.body.getD .skip)) (by kernel_rfl) (by kernel_rfl) (args_slot _) (hostlaw_World_waits.B0_sound w0 c sd w h)
  exact hc.mono fun e w' he => by
    obtain ⟨v, rfl, hv⟩ := he
    exact hostlaw_World_waits.RV_elim hv
def hostlaw_World_Seam.B4 (w0 : Option Addr) (c : Int) (list_b : Option Addr) (list_l list_c : Nat) (i : Int) (en s : Nat) (t87 : Bool) (w : World) (N1 : Option Addr → Int → Option Addr → Nat → Nat → Int → World → Prop)  (R : Bool → World → Prop) : Prop :=
  Bm t87 (
    R false w) (
    LdI .i64 ⟨en, 5, none⟩ w.drew fun x91 =>
    Pn w0 fun a =>
    (0 ≤ c ∧ c < ((3 : Nat) : Int)) ∧
    (0 ≤ x91 ∧ x91 < ((4 : Nat) : Int)) ∧
    LdP (Addr.add ((Addr.add (a.add 3) (c.toNat * 7)).add 2) (x91.toNat * 1)) w.drew fun x97 =>
    conn_Conn_Info.Call x97 w.drew fun r98 w1 =>
    LdP ⟨s, 8, none⟩ w1 fun x101 =>
    hostlaw_SameConn.Call r98 x101 w1 fun r102 w2 =>
    Bm (!r102) (
      R false w2) (
      N1 w0 c list_b list_l list_c (IntKind.i64.wrap (i + (1 : Int))) w2))
theorem hostlaw_World_Seam.B4_eq (w0 : Option Addr) (c : Int) (list_b : Option Addr) (list_l list_c : Nat) (i : Int) (en s : Nat) (t87 : Bool) (w : World) (N1 : Option Addr → Int → Option Addr → Nat → Nat → Int → World → Prop)  (R : Bool → World → Prop)  :
    (
  Bm t87 (
    R false w) (
    LdI .i64 ⟨en, 5, none⟩ w.drew fun x91 =>
    Pn w0 fun a =>
    (0 ≤ c ∧ c < ((3 : Nat) : Int)) ∧
    (0 ≤ x91 ∧ x91 < ((4 : Nat) : Int)) ∧
    LdP (Addr.add ((Addr.add (a.add 3) (c.toNat * 7)).add 2) (x91.toNat * 1)) w.drew fun x97 =>
    conn_Conn_Info.Call x97 w.drew fun r98 w1 =>
    LdP ⟨s, 8, none⟩ w1 fun x101 =>
    hostlaw_SameConn.Call r98 x101 w1 fun r102 w2 =>
    Bm (!r102) (
      R false w2) (
      N1 w0 c list_b list_l list_c (IntKind.i64.wrap (i + (1 : Int))) w2))) = kstep Tryz.prog 104 Tryz.f35.results.toList (Tryz.f35.body.getD .skip) (hostlaw_World_Seam.RV R) (kvc Tryz.prog 104 Tryz.f35.results.toList (Tryz.f35.body.getD .skip) (hostlaw_World_Seam.RV R) [([(0, [1, 1, 1, 0, 1, 0, 0]), (2, [1, 1, 1, 0, 1, 0, 0]), (1, [0]), (0, [1, 1, 1, 1])], fun σ w => dP (slotOf σ 0) fun w0_ => dI .i64 (slotOf σ 1) fun c_ => dL (slotOf σ 5) fun list_b_ list_l_ list_c_ => dI .i64 (slotOf σ 6) fun i_ => N1 w0_ c_ list_b_ list_l_ list_c_ i_ w)] 2000) [(0, [1, 1, 1, 0, 1, 0, 0, 1, 0, 0, 1, 1, 1, 1, 0, 0, 1]), (0, [1, 1, 1, 0, 1, 0, 0, 1, 0, 0, 1, 1, 1, 1, 0, 1]), (1, [1]), (0, [1, 1, 1, 0, 1, 0, 0, 1, 1]), (2, [1, 1, 1, 0, 1, 0, 0]), (1, [0]), (0, [1, 1, 1, 1])] [(0, .pointer w0), (1, .int .i64 c), (5, .slice list_b list_l list_c), (6, .int .i64 i), (7, .pointer (some ⟨en, 0, none⟩)), (9, .pointer (some ⟨s, 0, none⟩)), (87, .bool t87)] w := by kernel_rfl
theorem hostlaw_World_Seam.B4_sound {R : Bool → World → Prop} {N1 : Option Addr → Int → Option Addr → Nat → Nat → Int → World → Prop} (hN1 : ∀ w0 c list_b list_l list_c i w, N1 w0 c list_b list_l list_c i w → KW Tryz.prog 35 104 (hostlaw_World_Seam.RV R) ([(0, [1, 1, 1, 0, 1, 0, 0]), (2, [1, 1, 1, 0, 1, 0, 0]), (1, [0]), (0, [1, 1, 1, 1])].map (toItem (Tryz.f35.body.getD .skip))) [(0, .pointer w0), (1, .int .i64 c), (5, .slice list_b list_l list_c), (6, .int .i64 i)] w) (w0 : Option Addr) (c : Int) (list_b : Option Addr) (list_l list_c : Nat) (i : Int) (en s : Nat) (t87 : Bool) (w : World) (h : hostlaw_World_Seam.B4 w0 c list_b list_l list_c i en s t87 w N1  R) :
    KW Tryz.prog 35 104 (hostlaw_World_Seam.RV R) ([(0, [1, 1, 1, 0, 1, 0, 0, 1, 0, 0, 1, 1, 1, 1, 0, 0, 1]), (0, [1, 1, 1, 0, 1, 0, 0, 1, 0, 0, 1, 1, 1, 1, 0, 1]), (1, [1]), (0, [1, 1, 1, 0, 1, 0, 0, 1, 1]), (2, [1, 1, 1, 0, 1, 0, 0]), (1, [0]), (0, [1, 1, 1, 1])].map (toItem (Tryz.f35.body.getD .skip))) [(0, .pointer w0), (1, .int .i64 c), (5, .slice list_b list_l list_c), (6, .int .i64 i), (7, .pointer (some ⟨en, 0, none⟩)), (9, .pointer (some ⟨s, 0, none⟩)), (87, .bool t87)] w := by
  exact block_spec Tryz.func35 Tryz.mixed (stops_cons (fun σ w h => by
      obtain ⟨w0_, e0, h⟩ := dP_elim h
      obtain ⟨c_, e1, h⟩ := dI_elim h
      obtain ⟨list_b_, list_l_, list_c_, e2, h⟩ := dL_elim h
      obtain ⟨i_, e3, h⟩ := dI_elim h
      exact (hN1 w0_ c_ list_b_ list_l_ list_c_ i_ w h).weaken (Sub.cons (Sub.cons (Sub.cons (Sub.cons (Sub.nil _) e3) e2) e1) e0)) stops_nil) (Eq.mp (hostlaw_World_Seam.B4_eq w0 c list_b list_l list_c i en s t87 w N1  R ) h)
def hostlaw_World_Seam.B3 (w0 : Option Addr) (c : Int) (list_b : Option Addr) (list_l list_c : Nat) (i : Int) (en s : Nat) (t76 : Bool) (w : World) (N1 : Option Addr → Int → Option Addr → Nat → Nat → Int → World → Prop)  (R : Bool → World → Prop) : Prop :=
  Bm t76 (
    R false w) (
    LdI .i64 ⟨en, 1, none⟩ w fun x78 =>
    Bm (x78 == (2 : Int)) (
      LdI .i64 ⟨en, 5, none⟩ w fun x81 =>
      Bm (decide (x81 < (0 : Int))) (
        hostlaw_World_Seam.B4 w0 c list_b list_l list_c i en s true w N1 R) (
        LdI .i64 ⟨en, 5, none⟩ w fun x85 =>
        hostlaw_World_Seam.B4 w0 c list_b list_l list_c i en s (decide (x85 ≥ (4 : Int))) w N1 R)) (
      N1 w0 c list_b list_l list_c (IntKind.i64.wrap (i + (1 : Int))) w))
theorem hostlaw_World_Seam.B3_eq (w0 : Option Addr) (c : Int) (list_b : Option Addr) (list_l list_c : Nat) (i : Int) (en s : Nat) (t76 : Bool) (w : World) (N1 : Option Addr → Int → Option Addr → Nat → Nat → Int → World → Prop)  (R : Bool → World → Prop) (sB4 : Option Addr → Int → Option Addr → Nat → Nat → Int → Nat → Nat → Bool → World → Prop) :
    (
  Bm t76 (
    R false w) (
    LdI .i64 ⟨en, 1, none⟩ w fun x78 =>
    Bm (x78 == (2 : Int)) (
      LdI .i64 ⟨en, 5, none⟩ w fun x81 =>
      Bm (decide (x81 < (0 : Int))) (
        sB4 w0 c list_b list_l list_c i en s true w) (
        LdI .i64 ⟨en, 5, none⟩ w fun x85 =>
        sB4 w0 c list_b list_l list_c i en s (decide (x85 ≥ (4 : Int))) w)) (
      N1 w0 c list_b list_l list_c (IntKind.i64.wrap (i + (1 : Int))) w))) = kstep Tryz.prog 104 Tryz.f35.results.toList (Tryz.f35.body.getD .skip) (hostlaw_World_Seam.RV R) (kvc Tryz.prog 104 Tryz.f35.results.toList (Tryz.f35.body.getD .skip) (hostlaw_World_Seam.RV R) [([(0, [1, 1, 1, 0, 1, 0, 0, 1, 0, 0, 1, 1, 1, 1, 0, 0, 1]), (0, [1, 1, 1, 0, 1, 0, 0, 1, 0, 0, 1, 1, 1, 1, 0, 1]), (1, [1]), (0, [1, 1, 1, 0, 1, 0, 0, 1, 1]), (2, [1, 1, 1, 0, 1, 0, 0]), (1, [0]), (0, [1, 1, 1, 1])], fun σ w => dP (slotOf σ 0) fun w0_ => dI .i64 (slotOf σ 1) fun c_ => dL (slotOf σ 5) fun list_b_ list_l_ list_c_ => dI .i64 (slotOf σ 6) fun i_ => dK (slotOf σ 7) fun en_ => dK (slotOf σ 9) fun s_ => dB (slotOf σ 87) fun t87_ => sB4 w0_ c_ list_b_ list_l_ list_c_ i_ en_ s_ t87_ w),
    ([(0, [1, 1, 1, 0, 1, 0, 0]), (2, [1, 1, 1, 0, 1, 0, 0]), (1, [0]), (0, [1, 1, 1, 1])], fun σ w => dP (slotOf σ 0) fun w0_ => dI .i64 (slotOf σ 1) fun c_ => dL (slotOf σ 5) fun list_b_ list_l_ list_c_ => dI .i64 (slotOf σ 6) fun i_ => N1 w0_ c_ list_b_ list_l_ list_c_ i_ w)] 2000) [(0, [1, 1, 1, 0, 1, 0, 0, 1, 0, 0, 1, 1, 0, 1]), (0, [1, 1, 1, 0, 1, 0, 0, 1, 0, 0, 1, 1, 1]), (1, [1]), (0, [1, 1, 1, 0, 1, 0, 0, 1, 1]), (2, [1, 1, 1, 0, 1, 0, 0]), (1, [0]), (0, [1, 1, 1, 1])] [(0, .pointer w0), (1, .int .i64 c), (5, .slice list_b list_l list_c), (6, .int .i64 i), (7, .pointer (some ⟨en, 0, none⟩)), (9, .pointer (some ⟨s, 0, none⟩)), (76, .bool t76)] w := by kernel_rfl
theorem hostlaw_World_Seam.B3_sound {R : Bool → World → Prop} {N1 : Option Addr → Int → Option Addr → Nat → Nat → Int → World → Prop} (hN1 : ∀ w0 c list_b list_l list_c i w, N1 w0 c list_b list_l list_c i w → KW Tryz.prog 35 104 (hostlaw_World_Seam.RV R) ([(0, [1, 1, 1, 0, 1, 0, 0]), (2, [1, 1, 1, 0, 1, 0, 0]), (1, [0]), (0, [1, 1, 1, 1])].map (toItem (Tryz.f35.body.getD .skip))) [(0, .pointer w0), (1, .int .i64 c), (5, .slice list_b list_l list_c), (6, .int .i64 i)] w) (w0 : Option Addr) (c : Int) (list_b : Option Addr) (list_l list_c : Nat) (i : Int) (en s : Nat) (t76 : Bool) (w : World) (h : hostlaw_World_Seam.B3 w0 c list_b list_l list_c i en s t76 w N1  R) :
    KW Tryz.prog 35 104 (hostlaw_World_Seam.RV R) ([(0, [1, 1, 1, 0, 1, 0, 0, 1, 0, 0, 1, 1, 0, 1]), (0, [1, 1, 1, 0, 1, 0, 0, 1, 0, 0, 1, 1, 1]), (1, [1]), (0, [1, 1, 1, 0, 1, 0, 0, 1, 1]), (2, [1, 1, 1, 0, 1, 0, 0]), (1, [0]), (0, [1, 1, 1, 1])].map (toItem (Tryz.f35.body.getD .skip))) [(0, .pointer w0), (1, .int .i64 c), (5, .slice list_b list_l list_c), (6, .int .i64 i), (7, .pointer (some ⟨en, 0, none⟩)), (9, .pointer (some ⟨s, 0, none⟩)), (76, .bool t76)] w := by
  exact block_spec Tryz.func35 Tryz.mixed (stops_cons (fun σ w h => by
      obtain ⟨w0_, e0, h⟩ := dP_elim h
      obtain ⟨c_, e1, h⟩ := dI_elim h
      obtain ⟨list_b_, list_l_, list_c_, e2, h⟩ := dL_elim h
      obtain ⟨i_, e3, h⟩ := dI_elim h
      obtain ⟨en_, e4, h⟩ := dK_elim h
      obtain ⟨s_, e5, h⟩ := dK_elim h
      obtain ⟨t87_, e6, h⟩ := dB_elim h
      exact (hostlaw_World_Seam.B4_sound hN1 w0_ c_ list_b_ list_l_ list_c_ i_ en_ s_ t87_ w h).weaken (Sub.cons (Sub.cons (Sub.cons (Sub.cons (Sub.cons (Sub.cons (Sub.cons (Sub.nil _) e6) e5) e4) e3) e2) e1) e0)) (stops_cons (fun σ w h => by
      obtain ⟨w0_, e0, h⟩ := dP_elim h
      obtain ⟨c_, e1, h⟩ := dI_elim h
      obtain ⟨list_b_, list_l_, list_c_, e2, h⟩ := dL_elim h
      obtain ⟨i_, e3, h⟩ := dI_elim h
      exact (hN1 w0_ c_ list_b_ list_l_ list_c_ i_ w h).weaken (Sub.cons (Sub.cons (Sub.cons (Sub.cons (Sub.nil _) e3) e2) e1) e0)) stops_nil)) (Eq.mp (hostlaw_World_Seam.B3_eq w0 c list_b list_l list_c i en s t76 w N1  R (fun w0_ c_ list_b_ list_l_ list_c_ i_ en_ s_ t87_ w => hostlaw_World_Seam.B4 w0_ c_ list_b_ list_l_ list_c_ i_ en_ s_ t87_ w N1 R)) h)
def hostlaw_World_Seam.B2 (w0 : Option Addr) (c : Int) (list_b : Option Addr) (list_l list_c : Nat) (i : Int) (en : Nat) (e : Int) (s : Nat) (f : Int) (w : World) (N1 : Option Addr → Int → Option Addr → Nat → Nat → Int → World → Prop)  (R : Bool → World → Prop) : Prop :=
  Bm (e != (0 : Int)) (
    hostlaw_World_Seam.B3 w0 c list_b list_l list_c i en s true w N1 R) (
    Bm (f != (0 : Int)) (
      hostlaw_World_Seam.B3 w0 c list_b list_l list_c i en s true w N1 R) (
      LdI .i64 ⟨en, 0, none⟩ w fun x71_0 =>
      LdI .i64 ⟨en, 1, none⟩ w fun x71_1 =>
      LdI .i64 ⟨en, 2, none⟩ w fun x71_2 =>
      LdI .i64 ⟨en, 3, none⟩ w fun x71_3 =>
      LdI .i64 ⟨en, 4, none⟩ w fun x71_4 =>
      LdI .i64 ⟨en, 5, none⟩ w fun x71_5 =>
      LdI .i64 ⟨en, 6, none⟩ w fun x71_6 =>
      LdB ⟨en, 7, none⟩ w fun x71_7 =>
      LdI .i64 ⟨s, 0, none⟩ w fun x73_0 =>
      LdI .i64 ⟨s, 1, none⟩ w fun x73_1 =>
      LdI .i64 ⟨s, 2, none⟩ w fun x73_2 =>
      LdI .i64 ⟨s, 3, none⟩ w fun x73_3 =>
      LdI .i64 ⟨s, 4, none⟩ w fun x73_4 =>
      LdI .i64 ⟨s, 5, none⟩ w fun x73_5 =>
      LdI .i64 ⟨s, 6, none⟩ w fun x73_6 =>
      LdB ⟨s, 7, none⟩ w fun x73_7 =>
      hostlaw_SameEntry.Call x71_0 x71_1 x71_2 x71_3 x71_4 x71_5 x71_6 x71_7 x73_0 x73_1 x73_2 x73_3 x73_4 x73_5 x73_6 x73_7 w fun r74 w1 =>
      hostlaw_World_Seam.B3 w0 c list_b list_l list_c i en s (!r74) w1 N1 R))
theorem hostlaw_World_Seam.B2_eq (w0 : Option Addr) (c : Int) (list_b : Option Addr) (list_l list_c : Nat) (i : Int) (en : Nat) (e : Int) (s : Nat) (f : Int) (w : World) (N1 : Option Addr → Int → Option Addr → Nat → Nat → Int → World → Prop)  (R : Bool → World → Prop) (sB3 : Option Addr → Int → Option Addr → Nat → Nat → Int → Nat → Nat → Bool → World → Prop) :
    (
  Bm (e != (0 : Int)) (
    sB3 w0 c list_b list_l list_c i en s true w) (
    Bm (f != (0 : Int)) (
      sB3 w0 c list_b list_l list_c i en s true w) (
      LdI .i64 ⟨en, 0, none⟩ w fun x71_0 =>
      LdI .i64 ⟨en, 1, none⟩ w fun x71_1 =>
      LdI .i64 ⟨en, 2, none⟩ w fun x71_2 =>
      LdI .i64 ⟨en, 3, none⟩ w fun x71_3 =>
      LdI .i64 ⟨en, 4, none⟩ w fun x71_4 =>
      LdI .i64 ⟨en, 5, none⟩ w fun x71_5 =>
      LdI .i64 ⟨en, 6, none⟩ w fun x71_6 =>
      LdB ⟨en, 7, none⟩ w fun x71_7 =>
      LdI .i64 ⟨s, 0, none⟩ w fun x73_0 =>
      LdI .i64 ⟨s, 1, none⟩ w fun x73_1 =>
      LdI .i64 ⟨s, 2, none⟩ w fun x73_2 =>
      LdI .i64 ⟨s, 3, none⟩ w fun x73_3 =>
      LdI .i64 ⟨s, 4, none⟩ w fun x73_4 =>
      LdI .i64 ⟨s, 5, none⟩ w fun x73_5 =>
      LdI .i64 ⟨s, 6, none⟩ w fun x73_6 =>
      LdB ⟨s, 7, none⟩ w fun x73_7 =>
      hostlaw_SameEntry.Call x71_0 x71_1 x71_2 x71_3 x71_4 x71_5 x71_6 x71_7 x73_0 x73_1 x73_2 x73_3 x73_4 x73_5 x73_6 x73_7 w fun r74 w1 =>
      sB3 w0 c list_b list_l list_c i en s (!r74) w1))) = kstep Tryz.prog 104 Tryz.f35.results.toList (Tryz.f35.body.getD .skip) (hostlaw_World_Seam.RV R) (kvc Tryz.prog 104 Tryz.f35.results.toList (Tryz.f35.body.getD .skip) (hostlaw_World_Seam.RV R) [([(0, [1, 1, 1, 0, 1, 0, 0, 1, 0, 0, 1, 1, 0, 1]), (0, [1, 1, 1, 0, 1, 0, 0, 1, 0, 0, 1, 1, 1]), (1, [1]), (0, [1, 1, 1, 0, 1, 0, 0, 1, 1]), (2, [1, 1, 1, 0, 1, 0, 0]), (1, [0]), (0, [1, 1, 1, 1])], fun σ w => dP (slotOf σ 0) fun w0_ => dI .i64 (slotOf σ 1) fun c_ => dL (slotOf σ 5) fun list_b_ list_l_ list_c_ => dI .i64 (slotOf σ 6) fun i_ => dK (slotOf σ 7) fun en_ => dK (slotOf σ 9) fun s_ => dB (slotOf σ 76) fun t76_ => sB3 w0_ c_ list_b_ list_l_ list_c_ i_ en_ s_ t76_ w)] 2000) [(0, [1, 1, 1, 0, 1, 0, 0, 1, 0, 0, 1, 1]), (1, [1]), (0, [1, 1, 1, 0, 1, 0, 0, 1, 1]), (2, [1, 1, 1, 0, 1, 0, 0]), (1, [0]), (0, [1, 1, 1, 1])] [(0, .pointer w0), (1, .int .i64 c), (5, .slice list_b list_l list_c), (6, .int .i64 i), (7, .pointer (some ⟨en, 0, none⟩)), (8, .int .i64 e), (9, .pointer (some ⟨s, 0, none⟩)), (10, .int .i64 f)] w := by kernel_rfl
theorem hostlaw_World_Seam.B2_sound {R : Bool → World → Prop} {N1 : Option Addr → Int → Option Addr → Nat → Nat → Int → World → Prop} (hN1 : ∀ w0 c list_b list_l list_c i w, N1 w0 c list_b list_l list_c i w → KW Tryz.prog 35 104 (hostlaw_World_Seam.RV R) ([(0, [1, 1, 1, 0, 1, 0, 0]), (2, [1, 1, 1, 0, 1, 0, 0]), (1, [0]), (0, [1, 1, 1, 1])].map (toItem (Tryz.f35.body.getD .skip))) [(0, .pointer w0), (1, .int .i64 c), (5, .slice list_b list_l list_c), (6, .int .i64 i)] w) (w0 : Option Addr) (c : Int) (list_b : Option Addr) (list_l list_c : Nat) (i : Int) (en : Nat) (e : Int) (s : Nat) (f : Int) (w : World) (h : hostlaw_World_Seam.B2 w0 c list_b list_l list_c i en e s f w N1  R) :
    KW Tryz.prog 35 104 (hostlaw_World_Seam.RV R) ([(0, [1, 1, 1, 0, 1, 0, 0, 1, 0, 0, 1, 1]), (1, [1]), (0, [1, 1, 1, 0, 1, 0, 0, 1, 1]), (2, [1, 1, 1, 0, 1, 0, 0]), (1, [0]), (0, [1, 1, 1, 1])].map (toItem (Tryz.f35.body.getD .skip))) [(0, .pointer w0), (1, .int .i64 c), (5, .slice list_b list_l list_c), (6, .int .i64 i), (7, .pointer (some ⟨en, 0, none⟩)), (8, .int .i64 e), (9, .pointer (some ⟨s, 0, none⟩)), (10, .int .i64 f)] w := by
  exact block_spec Tryz.func35 Tryz.mixed (stops_cons (fun σ w h => by
      obtain ⟨w0_, e0, h⟩ := dP_elim h
      obtain ⟨c_, e1, h⟩ := dI_elim h
      obtain ⟨list_b_, list_l_, list_c_, e2, h⟩ := dL_elim h
      obtain ⟨i_, e3, h⟩ := dI_elim h
      obtain ⟨en_, e4, h⟩ := dK_elim h
      obtain ⟨s_, e5, h⟩ := dK_elim h
      obtain ⟨t76_, e6, h⟩ := dB_elim h
      exact (hostlaw_World_Seam.B3_sound hN1 w0_ c_ list_b_ list_l_ list_c_ i_ en_ s_ t76_ w h).weaken (Sub.cons (Sub.cons (Sub.cons (Sub.cons (Sub.cons (Sub.cons (Sub.cons (Sub.nil _) e6) e5) e4) e3) e2) e1) e0)) stops_nil) (Eq.mp (hostlaw_World_Seam.B2_eq w0 c list_b list_l list_c i en e s f w N1  R (fun w0_ c_ list_b_ list_l_ list_c_ i_ en_ s_ t76_ w => hostlaw_World_Seam.B3 w0_ c_ list_b_ list_l_ list_c_ i_ en_ s_ t76_ w N1 R)) h)
def hostlaw_World_Seam.B1 (w0 : Option Addr) (c : Int) (list_b : Option Addr) (list_l list_c : Nat) (i : Int) (en : Nat) (e : Int) (w : World) (N1 : Option Addr → Int → Option Addr → Nat → Nat → Int → World → Prop)  (R : Bool → World → Prop) : Prop :=
  Pn w0 fun a =>
  (0 ≤ c ∧ c < ((3 : Nat) : Int)) ∧
  LdP (Addr.add a (c.toNat * 1)) w.drew fun x56 =>
  Pn list_b fun a_1 =>
  (0 ≤ i ∧ i < ((list_l : Nat) : Int)) ∧
  LdI .i64 (Addr.add a_1 (i.toNat * 1)) w.drew fun x60 =>
  ((
    host_Host_Info.Call x56 x60 w.drew fun r61_0_0 r61_0_1 r61_0_2 r61_0_3 r61_0_4 r61_0_5 r61_0_6 r61_0_7 r61_0_8 r61_1 w1 =>
    New (.cells #[.int .i64 (0 : Int), .int .i64 (0 : Int), .int .i64 (0 : Int), .int .i64 (0 : Int), .int .i64 (0 : Int), .int .i64 (0 : Int), .int .i64 (0 : Int), .bool false, .pointer none] 69) w1 fun s_ w2 =>
    Sts [.int .i64 r61_0_0, .int .i64 r61_0_1, .int .i64 r61_0_2, .int .i64 r61_0_3, .int .i64 r61_0_4, .int .i64 r61_0_5, .int .i64 r61_0_6, .bool r61_0_7, .pointer r61_0_8] ⟨s_, 0, none⟩ 0 w2 fun w3 =>
    hostlaw_World_Seam.B2 w0 c list_b list_l list_c i en e s_ r61_1 w3 N1 R) ∧ (
    New (.cells #[.int .i64 (0 : Int), .int .i64 (0 : Int), .int .i64 (0 : Int), .int .i64 (0 : Int), .int .i64 (0 : Int), .int .i64 (0 : Int), .int .i64 (0 : Int), .bool false, .pointer none] 69) w.drew fun s__1 w4 =>
    w4.cell? (Addr.add a_1 (i.toNat * 1)) = some (.int .i64 x60) ∧
    w4.cell? (Addr.add a (c.toNat * 1)) = some (.pointer x56) ∧
    host_Host_Info.Call x56 x60 w4 fun r61_0_0_1 r61_0_1_1 r61_0_2_1 r61_0_3_1 r61_0_4_1 r61_0_5_1 r61_0_6_1 r61_0_7_1 r61_0_8_1 r61_1_1 w5 =>
    Sts [.int .i64 r61_0_0_1, .int .i64 r61_0_1_1, .int .i64 r61_0_2_1, .int .i64 r61_0_3_1, .int .i64 r61_0_4_1, .int .i64 r61_0_5_1, .int .i64 r61_0_6_1, .bool r61_0_7_1, .pointer r61_0_8_1] ⟨s__1, 0, none⟩ 0 w5 fun w6 =>
    hostlaw_World_Seam.B2 w0 c list_b list_l list_c i en e s__1 r61_1_1 w6 N1 R))
theorem hostlaw_World_Seam.B1_eq (w0 : Option Addr) (c : Int) (list_b : Option Addr) (list_l list_c : Nat) (i : Int) (en : Nat) (e : Int) (w : World) (N1 : Option Addr → Int → Option Addr → Nat → Nat → Int → World → Prop)  (R : Bool → World → Prop) (sB2 : Option Addr → Int → Option Addr → Nat → Nat → Int → Nat → Int → Nat → Int → World → Prop) :
    (
  Pn w0 fun a =>
  (0 ≤ c ∧ c < ((3 : Nat) : Int)) ∧
  LdP (Addr.add a (c.toNat * 1)) w.drew fun x56 =>
  Pn list_b fun a_1 =>
  (0 ≤ i ∧ i < ((list_l : Nat) : Int)) ∧
  LdI .i64 (Addr.add a_1 (i.toNat * 1)) w.drew fun x60 =>
  ((
    host_Host_Info.Call x56 x60 w.drew fun r61_0_0 r61_0_1 r61_0_2 r61_0_3 r61_0_4 r61_0_5 r61_0_6 r61_0_7 r61_0_8 r61_1 w1 =>
    New (.cells #[.int .i64 (0 : Int), .int .i64 (0 : Int), .int .i64 (0 : Int), .int .i64 (0 : Int), .int .i64 (0 : Int), .int .i64 (0 : Int), .int .i64 (0 : Int), .bool false, .pointer none] 69) w1 fun s_ w2 =>
    Sts [.int .i64 r61_0_0, .int .i64 r61_0_1, .int .i64 r61_0_2, .int .i64 r61_0_3, .int .i64 r61_0_4, .int .i64 r61_0_5, .int .i64 r61_0_6, .bool r61_0_7, .pointer r61_0_8] ⟨s_, 0, none⟩ 0 w2 fun w3 =>
    sB2 w0 c list_b list_l list_c i en e s_ r61_1 w3) ∧ (
    New (.cells #[.int .i64 (0 : Int), .int .i64 (0 : Int), .int .i64 (0 : Int), .int .i64 (0 : Int), .int .i64 (0 : Int), .int .i64 (0 : Int), .int .i64 (0 : Int), .bool false, .pointer none] 69) w.drew fun s__1 w4 =>
    w4.cell? (Addr.add a_1 (i.toNat * 1)) = some (.int .i64 x60) ∧
    w4.cell? (Addr.add a (c.toNat * 1)) = some (.pointer x56) ∧
    host_Host_Info.Call x56 x60 w4 fun r61_0_0_1 r61_0_1_1 r61_0_2_1 r61_0_3_1 r61_0_4_1 r61_0_5_1 r61_0_6_1 r61_0_7_1 r61_0_8_1 r61_1_1 w5 =>
    Sts [.int .i64 r61_0_0_1, .int .i64 r61_0_1_1, .int .i64 r61_0_2_1, .int .i64 r61_0_3_1, .int .i64 r61_0_4_1, .int .i64 r61_0_5_1, .int .i64 r61_0_6_1, .bool r61_0_7_1, .pointer r61_0_8_1] ⟨s__1, 0, none⟩ 0 w5 fun w6 =>
    sB2 w0 c list_b list_l list_c i en e s__1 r61_1_1 w6))) = kstep Tryz.prog 104 Tryz.f35.results.toList (Tryz.f35.body.getD .skip) (hostlaw_World_Seam.RV R) (kvc Tryz.prog 104 Tryz.f35.results.toList (Tryz.f35.body.getD .skip) (hostlaw_World_Seam.RV R) [([(0, [1, 1, 1, 0, 1, 0, 0, 1, 0, 0, 1, 1]), (1, [1]), (0, [1, 1, 1, 0, 1, 0, 0, 1, 1]), (2, [1, 1, 1, 0, 1, 0, 0]), (1, [0]), (0, [1, 1, 1, 1])], fun σ w => dP (slotOf σ 0) fun w0_ => dI .i64 (slotOf σ 1) fun c_ => dL (slotOf σ 5) fun list_b_ list_l_ list_c_ => dI .i64 (slotOf σ 6) fun i_ => dK (slotOf σ 7) fun en_ => dI .i64 (slotOf σ 8) fun e_ => dK (slotOf σ 9) fun s_ => dI .i64 (slotOf σ 10) fun f_ => sB2 w0_ c_ list_b_ list_l_ list_c_ i_ en_ e_ s_ f_ w)] 2000) [(0, [1, 1, 1, 0, 1, 0, 0, 1, 0, 0, 1]), (1, [1]), (0, [1, 1, 1, 0, 1, 0, 0, 1, 1]), (2, [1, 1, 1, 0, 1, 0, 0]), (1, [0]), (0, [1, 1, 1, 1])] [(0, .pointer w0), (1, .int .i64 c), (5, .slice list_b list_l list_c), (6, .int .i64 i), (7, .pointer (some ⟨en, 0, none⟩)), (8, .int .i64 e)] w := by kernel_rfl
theorem hostlaw_World_Seam.B1_sound {R : Bool → World → Prop} {N1 : Option Addr → Int → Option Addr → Nat → Nat → Int → World → Prop} (hN1 : ∀ w0 c list_b list_l list_c i w, N1 w0 c list_b list_l list_c i w → KW Tryz.prog 35 104 (hostlaw_World_Seam.RV R) ([(0, [1, 1, 1, 0, 1, 0, 0]), (2, [1, 1, 1, 0, 1, 0, 0]), (1, [0]), (0, [1, 1, 1, 1])].map (toItem (Tryz.f35.body.getD .skip))) [(0, .pointer w0), (1, .int .i64 c), (5, .slice list_b list_l list_c), (6, .int .i64 i)] w) (w0 : Option Addr) (c : Int) (list_b : Option Addr) (list_l list_c : Nat) (i : Int) (en : Nat) (e : Int) (w : World) (h : hostlaw_World_Seam.B1 w0 c list_b list_l list_c i en e w N1  R) :
    KW Tryz.prog 35 104 (hostlaw_World_Seam.RV R) ([(0, [1, 1, 1, 0, 1, 0, 0, 1, 0, 0, 1]), (1, [1]), (0, [1, 1, 1, 0, 1, 0, 0, 1, 1]), (2, [1, 1, 1, 0, 1, 0, 0]), (1, [0]), (0, [1, 1, 1, 1])].map (toItem (Tryz.f35.body.getD .skip))) [(0, .pointer w0), (1, .int .i64 c), (5, .slice list_b list_l list_c), (6, .int .i64 i), (7, .pointer (some ⟨en, 0, none⟩)), (8, .int .i64 e)] w := by
  exact block_spec Tryz.func35 Tryz.mixed (stops_cons (fun σ w h => by
      obtain ⟨w0_, e0, h⟩ := dP_elim h
      obtain ⟨c_, e1, h⟩ := dI_elim h
      obtain ⟨list_b_, list_l_, list_c_, e2, h⟩ := dL_elim h
      obtain ⟨i_, e3, h⟩ := dI_elim h
      obtain ⟨en_, e4, h⟩ := dK_elim h
      obtain ⟨e_, e5, h⟩ := dI_elim h
      obtain ⟨s_, e6, h⟩ := dK_elim h
      obtain ⟨f_, e7, h⟩ := dI_elim h
      exact (hostlaw_World_Seam.B2_sound hN1 w0_ c_ list_b_ list_l_ list_c_ i_ en_ e_ s_ f_ w h).weaken (Sub.cons (Sub.cons (Sub.cons (Sub.cons (Sub.cons (Sub.cons (Sub.cons (Sub.cons (Sub.nil _) e7) e6) e5) e4) e3) e2) e1) e0)) stops_nil) (Eq.mp (hostlaw_World_Seam.B1_eq w0 c list_b list_l list_c i en e w N1  R (fun w0_ c_ list_b_ list_l_ list_c_ i_ en_ e_ s_ f_ w => hostlaw_World_Seam.B2 w0_ c_ list_b_ list_l_ list_c_ i_ en_ e_ s_ f_ w N1 R)) h)
def hostlaw_World_Seam.L1b (w0 : Option Addr) (c : Int) (list_b : Option Addr) (list_l list_c : Nat) (i : Int) (w : World)  (N1 : Option Addr → Int → Option Addr → Nat → Nat → Int → World → Prop) (R : Bool → World → Prop) : Prop :=
  Bm (decide (i < ((list_l : Nat) : Int))) (
    Pn w0 fun a =>
    (0 ≤ c ∧ c < ((3 : Nat) : Int)) ∧
    LdP ((Addr.add (a.add 3) (c.toNat * 7)).add 6) w.drew fun x42 =>
    Pn list_b fun a_1 =>
    (0 ≤ i ∧ i < ((list_l : Nat) : Int)) ∧
    LdI .i64 (Addr.add a_1 (i.toNat * 1)) w.drew fun x46 =>
    ((
      sock_Table_Get.Call x42 x46 w.drew fun r47_0_0 r47_0_1 r47_0_2 r47_0_3 r47_0_4 r47_0_5 r47_0_6 r47_0_7 r47_1 w1 =>
      New (.cells #[.int .i64 (0 : Int), .int .i64 (0 : Int), .int .i64 (0 : Int), .int .i64 (0 : Int), .int .i64 (0 : Int), .int .i64 (0 : Int), .int .i64 (0 : Int), .bool false] 66) w1 fun en_ w2 =>
      Sts [.int .i64 r47_0_0, .int .i64 r47_0_1, .int .i64 r47_0_2, .int .i64 r47_0_3, .int .i64 r47_0_4, .int .i64 r47_0_5, .int .i64 r47_0_6, .bool r47_0_7] ⟨en_, 0, none⟩ 0 w2 fun w3 =>
      hostlaw_World_Seam.B1 w0 c list_b list_l list_c i en_ r47_1 w3 N1 R) ∧ (
      New (.cells #[.int .i64 (0 : Int), .int .i64 (0 : Int), .int .i64 (0 : Int), .int .i64 (0 : Int), .int .i64 (0 : Int), .int .i64 (0 : Int), .int .i64 (0 : Int), .bool false] 66) w.drew fun en__1 w4 =>
      w4.cell? (Addr.add a_1 (i.toNat * 1)) = some (.int .i64 x46) ∧
      w4.cell? ((Addr.add (a.add 3) (c.toNat * 7)).add 6) = some (.pointer x42) ∧
      sock_Table_Get.Call x42 x46 w4 fun r47_0_0_1 r47_0_1_1 r47_0_2_1 r47_0_3_1 r47_0_4_1 r47_0_5_1 r47_0_6_1 r47_0_7_1 r47_1_1 w5 =>
      Sts [.int .i64 r47_0_0_1, .int .i64 r47_0_1_1, .int .i64 r47_0_2_1, .int .i64 r47_0_3_1, .int .i64 r47_0_4_1, .int .i64 r47_0_5_1, .int .i64 r47_0_6_1, .bool r47_0_7_1] ⟨en__1, 0, none⟩ 0 w5 fun w6 =>
      hostlaw_World_Seam.B1 w0 c list_b list_l list_c i en__1 r47_1_1 w6 N1 R))) (
    R true w)
theorem hostlaw_World_Seam.L1b_eq (w0 : Option Addr) (c : Int) (list_b : Option Addr) (list_l list_c : Nat) (i : Int) (w : World)  (N1 : Option Addr → Int → Option Addr → Nat → Nat → Int → World → Prop) (R : Bool → World → Prop) (sB1 : Option Addr → Int → Option Addr → Nat → Nat → Int → Nat → Int → World → Prop) :
    (
  Bm (decide (i < ((list_l : Nat) : Int))) (
    Pn w0 fun a =>
    (0 ≤ c ∧ c < ((3 : Nat) : Int)) ∧
    LdP ((Addr.add (a.add 3) (c.toNat * 7)).add 6) w.drew fun x42 =>
    Pn list_b fun a_1 =>
    (0 ≤ i ∧ i < ((list_l : Nat) : Int)) ∧
    LdI .i64 (Addr.add a_1 (i.toNat * 1)) w.drew fun x46 =>
    ((
      sock_Table_Get.Call x42 x46 w.drew fun r47_0_0 r47_0_1 r47_0_2 r47_0_3 r47_0_4 r47_0_5 r47_0_6 r47_0_7 r47_1 w1 =>
      New (.cells #[.int .i64 (0 : Int), .int .i64 (0 : Int), .int .i64 (0 : Int), .int .i64 (0 : Int), .int .i64 (0 : Int), .int .i64 (0 : Int), .int .i64 (0 : Int), .bool false] 66) w1 fun en_ w2 =>
      Sts [.int .i64 r47_0_0, .int .i64 r47_0_1, .int .i64 r47_0_2, .int .i64 r47_0_3, .int .i64 r47_0_4, .int .i64 r47_0_5, .int .i64 r47_0_6, .bool r47_0_7] ⟨en_, 0, none⟩ 0 w2 fun w3 =>
      sB1 w0 c list_b list_l list_c i en_ r47_1 w3) ∧ (
      New (.cells #[.int .i64 (0 : Int), .int .i64 (0 : Int), .int .i64 (0 : Int), .int .i64 (0 : Int), .int .i64 (0 : Int), .int .i64 (0 : Int), .int .i64 (0 : Int), .bool false] 66) w.drew fun en__1 w4 =>
      w4.cell? (Addr.add a_1 (i.toNat * 1)) = some (.int .i64 x46) ∧
      w4.cell? ((Addr.add (a.add 3) (c.toNat * 7)).add 6) = some (.pointer x42) ∧
      sock_Table_Get.Call x42 x46 w4 fun r47_0_0_1 r47_0_1_1 r47_0_2_1 r47_0_3_1 r47_0_4_1 r47_0_5_1 r47_0_6_1 r47_0_7_1 r47_1_1 w5 =>
      Sts [.int .i64 r47_0_0_1, .int .i64 r47_0_1_1, .int .i64 r47_0_2_1, .int .i64 r47_0_3_1, .int .i64 r47_0_4_1, .int .i64 r47_0_5_1, .int .i64 r47_0_6_1, .bool r47_0_7_1] ⟨en__1, 0, none⟩ 0 w5 fun w6 =>
      sB1 w0 c list_b list_l list_c i en__1 r47_1_1 w6))) (
    R true w)) = kstep Tryz.prog 104 Tryz.f35.results.toList (Tryz.f35.body.getD .skip) (hostlaw_World_Seam.RV R) (kvc Tryz.prog 104 Tryz.f35.results.toList (Tryz.f35.body.getD .skip) (hostlaw_World_Seam.RV R) [([(0, [1, 1, 1, 0, 1, 0, 0, 1, 0, 0, 1]), (1, [1]), (0, [1, 1, 1, 0, 1, 0, 0, 1, 1]), (2, [1, 1, 1, 0, 1, 0, 0]), (1, [0]), (0, [1, 1, 1, 1])], fun σ w => dP (slotOf σ 0) fun w0_ => dI .i64 (slotOf σ 1) fun c_ => dL (slotOf σ 5) fun list_b_ list_l_ list_c_ => dI .i64 (slotOf σ 6) fun i_ => dK (slotOf σ 7) fun en_ => dI .i64 (slotOf σ 8) fun e_ => sB1 w0_ c_ list_b_ list_l_ list_c_ i_ en_ e_ w)] 2000) [(0, [1, 1, 1, 0, 1, 0, 0]), (2, [1, 1, 1, 0, 1, 0, 0]), (1, [0]), (0, [1, 1, 1, 1])] [(0, .pointer w0), (1, .int .i64 c), (5, .slice list_b list_l list_c), (6, .int .i64 i)] w := by kernel_rfl
theorem hostlaw_World_Seam.L1b_sound {R : Bool → World → Prop} {N1 : Option Addr → Int → Option Addr → Nat → Nat → Int → World → Prop} (hN1 : ∀ w0 c list_b list_l list_c i w, N1 w0 c list_b list_l list_c i w → KW Tryz.prog 35 104 (hostlaw_World_Seam.RV R) ([(0, [1, 1, 1, 0, 1, 0, 0]), (2, [1, 1, 1, 0, 1, 0, 0]), (1, [0]), (0, [1, 1, 1, 1])].map (toItem (Tryz.f35.body.getD .skip))) [(0, .pointer w0), (1, .int .i64 c), (5, .slice list_b list_l list_c), (6, .int .i64 i)] w) (w0 : Option Addr) (c : Int) (list_b : Option Addr) (list_l list_c : Nat) (i : Int) (w : World) (h : hostlaw_World_Seam.L1b w0 c list_b list_l list_c i w  N1 R) :
    KW Tryz.prog 35 104 (hostlaw_World_Seam.RV R) ([(0, [1, 1, 1, 0, 1, 0, 0]), (2, [1, 1, 1, 0, 1, 0, 0]), (1, [0]), (0, [1, 1, 1, 1])].map (toItem (Tryz.f35.body.getD .skip))) [(0, .pointer w0), (1, .int .i64 c), (5, .slice list_b list_l list_c), (6, .int .i64 i)] w := by
  exact block_spec Tryz.func35 Tryz.mixed (stops_cons (fun σ w h => by
      obtain ⟨w0_, e0, h⟩ := dP_elim h
      obtain ⟨c_, e1, h⟩ := dI_elim h
      obtain ⟨list_b_, list_l_, list_c_, e2, h⟩ := dL_elim h
      obtain ⟨i_, e3, h⟩ := dI_elim h
      obtain ⟨en_, e4, h⟩ := dK_elim h
      obtain ⟨e_, e5, h⟩ := dI_elim h
      exact (hostlaw_World_Seam.B1_sound hN1 w0_ c_ list_b_ list_l_ list_c_ i_ en_ e_ w h).weaken (Sub.cons (Sub.cons (Sub.cons (Sub.cons (Sub.cons (Sub.cons (Sub.nil _) e5) e4) e3) e2) e1) e0)) stops_nil) (Eq.mp (hostlaw_World_Seam.L1b_eq w0 c list_b list_l list_c i w  N1 R (fun w0_ c_ list_b_ list_l_ list_c_ i_ en_ e_ w => hostlaw_World_Seam.B1 w0_ c_ list_b_ list_l_ list_c_ i_ en_ e_ w N1 R)) h)
def hostlaw_World_Seam.L1 (w0 : Option Addr) (c : Int) (list_b : Option Addr) (list_l list_c : Nat) (i : Int) (w : World)  (R : Bool → World → Prop) : Prop :=
  ∃ (I : Nat → Option Addr → Int → Option Addr → Nat → Nat → Int → World → Prop) (m : Nat), I m w0 c list_b list_l list_c i w ∧ ∀ m w0 c list_b list_l list_c i w, I m w0 c list_b list_l list_c i w → hostlaw_World_Seam.L1b w0 c list_b list_l list_c i w  (fun w0' c' list_b' list_l' list_c' i' w' => ∃ m', m' < m ∧ I m' w0' c' list_b' list_l' list_c' i' w') R
theorem hostlaw_World_Seam.L1_sound {R : Bool → World → Prop}  (w0 : Option Addr) (c : Int) (list_b : Option Addr) (list_l list_c : Nat) (i : Int) (w : World) (h : hostlaw_World_Seam.L1 w0 c list_b list_l list_c i w  R) :
    KW Tryz.prog 35 104 (hostlaw_World_Seam.RV R) ([(0, [1, 1, 1, 0, 1, 0, 0]), (2, [1, 1, 1, 0, 1, 0, 0]), (1, [0]), (0, [1, 1, 1, 1])].map (toItem (Tryz.f35.body.getD .skip))) [(0, .pointer w0), (1, .int .i64 c), (5, .slice list_b list_l list_c), (6, .int .i64 i)] w := by
  obtain ⟨I, m, hBase, hr⟩ := h
  refine KW.loop (fun m σ w => ∃ (w0 : Option Addr) (c : Int) (list_b : Option Addr) (list_l list_c : Nat) (i : Int), σ = [(0, .pointer w0), (1, .int .i64 c), (5, .slice list_b list_l list_c), (6, .int .i64 i)] ∧ I m w0 c list_b list_l list_c i w) ?_ m _ w ⟨w0, c, list_b, list_l, list_c, i, rfl, hBase⟩
  rintro m ih σ w ⟨w0, c, list_b, list_l, list_c, i, rfl, hI⟩
  exact hostlaw_World_Seam.L1b_sound  (N1 := fun w0' c' list_b' list_l' list_c' i' w' => ∃ m', m' < m ∧ I m' w0' c' list_b' list_l' list_c' i' w') (fun w0' c' list_b' list_l' list_c' i' w' hx => by obtain ⟨m', hlt, hI'⟩ := hx; exact ih m' hlt _ w' ⟨w0', c', list_b', list_l', list_c', i', rfl, hI'⟩) w0 c list_b list_l list_c i w (hr m w0 c list_b list_l list_c i w hI)
def hostlaw_World_Seam.B0 (w0 : Option Addr) (c : Int) (w : World)   (R : Bool → World → Prop) : Prop :=
  Pn w0 fun a =>
  (0 ≤ c ∧ c < ((3 : Nat) : Int)) ∧
  LdP ((Addr.add (a.add 3) (c.toNat * 7)).add 6) w fun x18 =>
  sock_Table_List.Call x18 w fun r19_b r19_l r19_c w1 =>
  Pn w0 fun a_1 =>
  (0 ≤ c ∧ c < ((3 : Nat) : Int)) ∧
  LdL (Addr.add (a_1.add 34) (c.toNat * 1)) w1 fun x26_b x26_l x26_c =>
  hostlaw_SameInts.Call r19_b r19_l r19_c x26_b x26_l x26_c w1 fun r27 w2 =>
  Bm (!r27) (
    R false w2) (
    hostlaw_World_Seam.L1 w0 c r19_b r19_l r19_c (0 : Int) w2  R)
theorem hostlaw_World_Seam.B0_eq (w0 : Option Addr) (c : Int) (w : World)   (R : Bool → World → Prop) (sL1 : Option Addr → Int → Option Addr → Nat → Nat → Int → World → Prop) :
    (
  Pn w0 fun a =>
  (0 ≤ c ∧ c < ((3 : Nat) : Int)) ∧
  LdP ((Addr.add (a.add 3) (c.toNat * 7)).add 6) w fun x18 =>
  sock_Table_List.Call x18 w fun r19_b r19_l r19_c w1 =>
  Pn w0 fun a_1 =>
  (0 ≤ c ∧ c < ((3 : Nat) : Int)) ∧
  LdL (Addr.add (a_1.add 34) (c.toNat * 1)) w1 fun x26_b x26_l x26_c =>
  hostlaw_SameInts.Call r19_b r19_l r19_c x26_b x26_l x26_c w1 fun r27 w2 =>
  Bm (!r27) (
    R false w2) (
    sL1 w0 c r19_b r19_l r19_c (0 : Int) w2)) = kstep Tryz.prog 104 Tryz.f35.results.toList (Tryz.f35.body.getD .skip) (hostlaw_World_Seam.RV R) (kvc Tryz.prog 104 Tryz.f35.results.toList (Tryz.f35.body.getD .skip) (hostlaw_World_Seam.RV R) [([(0, [1, 1, 1, 0, 1, 0, 0]), (2, [1, 1, 1, 0, 1, 0, 0]), (1, [0]), (0, [1, 1, 1, 1])], fun σ w => dP (slotOf σ 0) fun w0_ => dI .i64 (slotOf σ 1) fun c_ => dL (slotOf σ 5) fun list_b_ list_l_ list_c_ => dI .i64 (slotOf σ 6) fun i_ => sL1 w0_ c_ list_b_ list_l_ list_c_ i_ w)] 2000) [(0, [])] [(0, .pointer w0), (1, .int .i64 c)] w := by kernel_rfl
theorem hostlaw_World_Seam.B0_sound {R : Bool → World → Prop}  (w0 : Option Addr) (c : Int) (w : World) (h : hostlaw_World_Seam.B0 w0 c w   R) :
    KW Tryz.prog 35 104 (hostlaw_World_Seam.RV R) ([(0, [])].map (toItem (Tryz.f35.body.getD .skip))) [(0, .pointer w0), (1, .int .i64 c)] w := by
  exact block_spec Tryz.func35 Tryz.mixed (stops_cons (fun σ w h => by
      obtain ⟨w0_, e0, h⟩ := dP_elim h
      obtain ⟨c_, e1, h⟩ := dI_elim h
      obtain ⟨list_b_, list_l_, list_c_, e2, h⟩ := dL_elim h
      obtain ⟨i_, e3, h⟩ := dI_elim h
      exact (hostlaw_World_Seam.L1_sound  w0_ c_ list_b_ list_l_ list_c_ i_ w h).weaken (Sub.cons (Sub.cons (Sub.cons (Sub.cons (Sub.nil _) e3) e2) e1) e0)) stops_nil) (Eq.mp (hostlaw_World_Seam.B0_eq w0 c w   R (fun w0_ c_ list_b_ list_l_ list_c_ i_ w => hostlaw_World_Seam.L1 w0_ c_ list_b_ list_l_ list_c_ i_ w  R)) h)
theorem hostlaw_World_Seam.sound (w0 : Option Addr) (c : Int) (w : World) (R : Bool → World → Prop) (h : hostlaw_World_Seam.B0 w0 c w R) : hostlaw_World_Seam.Call w0 c w R := by
  have hc := calls_of_block (args := #[.pointer w0, .int .i64 c]) Tryz.func35 (body := (Tryz.f35.body.getD .skip)) (by kernel_rfl) (by kernel_rfl) (args_slot _) (hostlaw_World_Seam.B0_sound w0 c w h)
  exact hc.mono fun e w' he => by
    obtain ⟨v, rfl, hv⟩ := he
    exact hostlaw_World_Seam.RV_elim hv
def hostm_Net_Unlisted.B1 (n : Option Addr) (i : Int) (t19 : Bool) (w : World)   (R : Bool → World → Prop) : Prop :=
  Bm t19 (
    R false w) (
    Pn n fun a =>
    LdL a w fun x23_b x23_l x23_c =>
    Pn x23_b fun a_1 =>
    (0 ≤ i ∧ i < ((x23_l : Nat) : Int)) ∧
    Sts [.bool true] ((Addr.add a_1 (i.toNat * 16)).add 15) 0 w fun w1 =>
    R true w1)
theorem hostm_Net_Unlisted.B1_eq (n : Option Addr) (i : Int) (t19 : Bool) (w : World)   (R : Bool → World → Prop)  :
    (
  Bm t19 (
    R false w) (
    Pn n fun a =>
    LdL a w fun x23_b x23_l x23_c =>
    Pn x23_b fun a_1 =>
    (0 ≤ i ∧ i < ((x23_l : Nat) : Int)) ∧
    Sts [.bool true] ((Addr.add a_1 (i.toNat * 16)).add 15) 0 w fun w1 =>
    R true w1)) = kstep Tryz.prog 27 Tryz.f36.results.toList (Tryz.f36.body.getD .skip) (hostm_Net_Unlisted.RV R) (kvc Tryz.prog 27 Tryz.f36.results.toList (Tryz.f36.body.getD .skip) (hostm_Net_Unlisted.RV R) [] 2000) [(0, [1, 0, 1]), (0, [1, 1])] [(0, .pointer n), (1, .int .i64 i), (19, .bool t19)] w := by kernel_rfl
theorem hostm_Net_Unlisted.B1_sound {R : Bool → World → Prop}  (n : Option Addr) (i : Int) (t19 : Bool) (w : World) (h : hostm_Net_Unlisted.B1 n i t19 w   R) :
    KW Tryz.prog 36 27 (hostm_Net_Unlisted.RV R) ([(0, [1, 0, 1]), (0, [1, 1])].map (toItem (Tryz.f36.body.getD .skip))) [(0, .pointer n), (1, .int .i64 i), (19, .bool t19)] w := by
  exact block_spec Tryz.func36 Tryz.mixed stops_nil (Eq.mp (hostm_Net_Unlisted.B1_eq n i t19 w   R ) h)
def hostm_Net_Unlisted.B0 (n : Option Addr) (i : Int) (w : World)   (R : Bool → World → Prop) : Prop :=
  hostm_Net_has.Call n i w fun r7 w1 =>
  Bm (!r7) (
    hostm_Net_Unlisted.B1 n i true w1  R) (
    Pn n fun a =>
    LdL a w1 fun x13_b x13_l x13_c =>
    Pn x13_b fun a_1 =>
    (0 ≤ i ∧ i < ((x13_l : Nat) : Int)) ∧
    LdI .i64 ((Addr.add a_1 (i.toNat * 16)).add 10) w1 fun x17 =>
    hostm_Net_Unlisted.B1 n i (x17 != (4 : Int)) w1  R)
theorem hostm_Net_Unlisted.B0_eq (n : Option Addr) (i : Int) (w : World)   (R : Bool → World → Prop) (sB1 : Option Addr → Int → Bool → World → Prop) :
    (
  hostm_Net_has.Call n i w fun r7 w1 =>
  Bm (!r7) (
    sB1 n i true w1) (
    Pn n fun a =>
    LdL a w1 fun x13_b x13_l x13_c =>
    Pn x13_b fun a_1 =>
    (0 ≤ i ∧ i < ((x13_l : Nat) : Int)) ∧
    LdI .i64 ((Addr.add a_1 (i.toNat * 16)).add 10) w1 fun x17 =>
    sB1 n i (x17 != (4 : Int)) w1)) = kstep Tryz.prog 27 Tryz.f36.results.toList (Tryz.f36.body.getD .skip) (hostm_Net_Unlisted.RV R) (kvc Tryz.prog 27 Tryz.f36.results.toList (Tryz.f36.body.getD .skip) (hostm_Net_Unlisted.RV R) [([(0, [1, 0, 1]), (0, [1, 1])], fun σ w => dP (slotOf σ 0) fun n_ => dI .i64 (slotOf σ 1) fun i_ => dB (slotOf σ 19) fun t19_ => sB1 n_ i_ t19_ w)] 2000) [(0, [])] [(0, .pointer n), (1, .int .i64 i)] w := by kernel_rfl
theorem hostm_Net_Unlisted.B0_sound {R : Bool → World → Prop}  (n : Option Addr) (i : Int) (w : World) (h : hostm_Net_Unlisted.B0 n i w   R) :
    KW Tryz.prog 36 27 (hostm_Net_Unlisted.RV R) ([(0, [])].map (toItem (Tryz.f36.body.getD .skip))) [(0, .pointer n), (1, .int .i64 i)] w := by
  exact block_spec Tryz.func36 Tryz.mixed (stops_cons (fun σ w h => by
      obtain ⟨n_, e0, h⟩ := dP_elim h
      obtain ⟨i_, e1, h⟩ := dI_elim h
      obtain ⟨t19_, e2, h⟩ := dB_elim h
      exact (hostm_Net_Unlisted.B1_sound  n_ i_ t19_ w h).weaken (Sub.cons (Sub.cons (Sub.cons (Sub.nil _) e2) e1) e0)) stops_nil) (Eq.mp (hostm_Net_Unlisted.B0_eq n i w   R (fun n_ i_ t19_ w => hostm_Net_Unlisted.B1 n_ i_ t19_ w  R)) h)
theorem hostm_Net_Unlisted.sound (n : Option Addr) (i : Int) (w : World) (R : Bool → World → Prop) (h : hostm_Net_Unlisted.B0 n i w R) : hostm_Net_Unlisted.Call n i w R := by
  have hc := calls_of_block (args := #[.pointer n, .int .i64 i]) Tryz.func36 (body := (Tryz.f36.body.getD .skip)) (by kernel_rfl) (by kernel_rfl) (args_slot _) (hostm_Net_Unlisted.B0_sound n i w h)
  exact hc.mono fun e w' he => by
    obtain ⟨v, rfl, hv⟩ := he
    exact hostm_Net_Unlisted.RV_elim hv
def hostlaw_World_sweep.B3 (w0 keep_b : Option Addr) (keep_l keep_c : Nat) (i : Int) (w : World) (N1 : Option Addr → Option Addr → Nat → Nat → Int → World → Prop)  (R : World → Prop) : Prop :=
  N1 w0 keep_b keep_l keep_c (IntKind.i64.wrap (i + (1 : Int))) w
theorem hostlaw_World_sweep.B3_eq (w0 keep_b : Option Addr) (keep_l keep_c : Nat) (i : Int) (w : World) (N1 : Option Addr → Option Addr → Nat → Nat → Int → World → Prop)  (R : World → Prop)  :
    (
  N1 w0 keep_b keep_l keep_c (IntKind.i64.wrap (i + (1 : Int))) w) = kstep Tryz.prog 65 Tryz.f37.results.toList (Tryz.f37.body.getD .skip) (hostlaw_World_sweep.RV R) (kvc Tryz.prog 65 Tryz.f37.results.toList (Tryz.f37.body.getD .skip) (hostlaw_World_sweep.RV R) [([(0, [1, 0, 1, 0, 0]), (2, [1, 0, 1, 0, 0]), (1, [0]), (0, [1, 1])], fun σ w => dP (slotOf σ 0) fun w0_ => dL (slotOf σ 2) fun keep_b_ keep_l_ keep_c_ => dI .i64 (slotOf σ 3) fun i_ => N1 w0_ keep_b_ keep_l_ keep_c_ i_ w)] 2000) [(0, [1, 0, 1, 0, 0, 1, 1]), (2, [1, 0, 1, 0, 0]), (1, [0]), (0, [1, 1])] [(0, .pointer w0), (2, .slice keep_b keep_l keep_c), (3, .int .i64 i)] w := by kernel_rfl
theorem hostlaw_World_sweep.B3_sound {R : World → Prop} {N1 : Option Addr → Option Addr → Nat → Nat → Int → World → Prop} (hN1 : ∀ w0 keep_b keep_l keep_c i w, N1 w0 keep_b keep_l keep_c i w → KW Tryz.prog 37 65 (hostlaw_World_sweep.RV R) ([(0, [1, 0, 1, 0, 0]), (2, [1, 0, 1, 0, 0]), (1, [0]), (0, [1, 1])].map (toItem (Tryz.f37.body.getD .skip))) [(0, .pointer w0), (2, .slice keep_b keep_l keep_c), (3, .int .i64 i)] w) (w0 keep_b : Option Addr) (keep_l keep_c : Nat) (i : Int) (w : World) (h : hostlaw_World_sweep.B3 w0 keep_b keep_l keep_c i w N1  R) :
    KW Tryz.prog 37 65 (hostlaw_World_sweep.RV R) ([(0, [1, 0, 1, 0, 0, 1, 1]), (2, [1, 0, 1, 0, 0]), (1, [0]), (0, [1, 1])].map (toItem (Tryz.f37.body.getD .skip))) [(0, .pointer w0), (2, .slice keep_b keep_l keep_c), (3, .int .i64 i)] w := by
  exact block_spec Tryz.func37 Tryz.mixed (stops_cons (fun σ w h => by
      obtain ⟨w0_, e0, h⟩ := dP_elim h
      obtain ⟨keep_b_, keep_l_, keep_c_, e1, h⟩ := dL_elim h
      obtain ⟨i_, e2, h⟩ := dI_elim h
      exact (hN1 w0_ keep_b_ keep_l_ keep_c_ i_ w h).weaken (Sub.cons (Sub.cons (Sub.cons (Sub.nil _) e2) e1) e0)) stops_nil) (Eq.mp (hostlaw_World_sweep.B3_eq w0 keep_b keep_l keep_c i w N1  R ) h)
def hostlaw_World_sweep.B2 (w0 keep_b : Option Addr) (keep_l keep_c : Nat) (i : Int) (r : Nat) (t56 : Bool) (w : World) (N1 : Option Addr → Option Addr → Nat → Nat → Int → World → Prop)  (R : World → Prop) : Prop :=
  Bm t56 (
    LdI .i64 ⟨r, 0, none⟩ w fun x58_0 =>
    LdI .i64 ⟨r, 1, none⟩ w fun x58_1 =>
    LdI .i64 ⟨r, 2, none⟩ w fun x58_2 =>
    New (.cells #[.int .i64 x58_0, .int .i64 x58_1, .int .i64 x58_2] 76) w fun b59 w1 =>
    Append 76 (.agg #[.int .i64 (0 : Int), .int .i64 (0 : Int), .int .i64 (0 : Int)]) 3 24 keep_b keep_l keep_c (some ⟨b59, 0, none⟩) 1 w1 fun b60 c60 w2 =>
    hostlaw_World_sweep.B3 w0 b60 (keep_l + 1) c60 i w2 N1 R) (
    hostlaw_World_sweep.B3 w0 keep_b keep_l keep_c i w N1 R)
theorem hostlaw_World_sweep.B2_eq (w0 keep_b : Option Addr) (keep_l keep_c : Nat) (i : Int) (r : Nat) (t56 : Bool) (w : World) (N1 : Option Addr → Option Addr → Nat → Nat → Int → World → Prop)  (R : World → Prop) (sB3 : Option Addr → Option Addr → Nat → Nat → Int → World → Prop) :
    (
  Bm t56 (
    LdI .i64 ⟨r, 0, none⟩ w fun x58_0 =>
    LdI .i64 ⟨r, 1, none⟩ w fun x58_1 =>
    LdI .i64 ⟨r, 2, none⟩ w fun x58_2 =>
    New (.cells #[.int .i64 x58_0, .int .i64 x58_1, .int .i64 x58_2] 76) w fun b59 w1 =>
    Append 76 (.agg #[.int .i64 (0 : Int), .int .i64 (0 : Int), .int .i64 (0 : Int)]) 3 24 keep_b keep_l keep_c (some ⟨b59, 0, none⟩) 1 w1 fun b60 c60 w2 =>
    sB3 w0 b60 (keep_l + 1) c60 i w2) (
    sB3 w0 keep_b keep_l keep_c i w)) = kstep Tryz.prog 65 Tryz.f37.results.toList (Tryz.f37.body.getD .skip) (hostlaw_World_sweep.RV R) (kvc Tryz.prog 65 Tryz.f37.results.toList (Tryz.f37.body.getD .skip) (hostlaw_World_sweep.RV R) [([(0, [1, 0, 1, 0, 0, 1, 1]), (2, [1, 0, 1, 0, 0]), (1, [0]), (0, [1, 1])], fun σ w => dP (slotOf σ 0) fun w0_ => dL (slotOf σ 2) fun keep_b_ keep_l_ keep_c_ => dI .i64 (slotOf σ 3) fun i_ => sB3 w0_ keep_b_ keep_l_ keep_c_ i_ w)] 2000) [(0, [1, 0, 1, 0, 0, 1, 0, 0, 1, 1, 1]), (1, [1]), (0, [1, 0, 1, 0, 0, 1, 1]), (2, [1, 0, 1, 0, 0]), (1, [0]), (0, [1, 1])] [(0, .pointer w0), (2, .slice keep_b keep_l keep_c), (3, .int .i64 i), (4, .pointer (some ⟨r, 0, none⟩)), (56, .bool t56)] w := by kernel_rfl
theorem hostlaw_World_sweep.B2_sound {R : World → Prop} {N1 : Option Addr → Option Addr → Nat → Nat → Int → World → Prop} (hN1 : ∀ w0 keep_b keep_l keep_c i w, N1 w0 keep_b keep_l keep_c i w → KW Tryz.prog 37 65 (hostlaw_World_sweep.RV R) ([(0, [1, 0, 1, 0, 0]), (2, [1, 0, 1, 0, 0]), (1, [0]), (0, [1, 1])].map (toItem (Tryz.f37.body.getD .skip))) [(0, .pointer w0), (2, .slice keep_b keep_l keep_c), (3, .int .i64 i)] w) (w0 keep_b : Option Addr) (keep_l keep_c : Nat) (i : Int) (r : Nat) (t56 : Bool) (w : World) (h : hostlaw_World_sweep.B2 w0 keep_b keep_l keep_c i r t56 w N1  R) :
    KW Tryz.prog 37 65 (hostlaw_World_sweep.RV R) ([(0, [1, 0, 1, 0, 0, 1, 0, 0, 1, 1, 1]), (1, [1]), (0, [1, 0, 1, 0, 0, 1, 1]), (2, [1, 0, 1, 0, 0]), (1, [0]), (0, [1, 1])].map (toItem (Tryz.f37.body.getD .skip))) [(0, .pointer w0), (2, .slice keep_b keep_l keep_c), (3, .int .i64 i), (4, .pointer (some ⟨r, 0, none⟩)), (56, .bool t56)] w := by
  exact block_spec Tryz.func37 Tryz.mixed (stops_cons (fun σ w h => by
      obtain ⟨w0_, e0, h⟩ := dP_elim h
      obtain ⟨keep_b_, keep_l_, keep_c_, e1, h⟩ := dL_elim h
      obtain ⟨i_, e2, h⟩ := dI_elim h
      exact (hostlaw_World_sweep.B3_sound hN1 w0_ keep_b_ keep_l_ keep_c_ i_ w h).weaken (Sub.cons (Sub.cons (Sub.cons (Sub.nil _) e2) e1) e0)) stops_nil) (Eq.mp (hostlaw_World_sweep.B2_eq w0 keep_b keep_l keep_c i r t56 w N1  R (fun w0_ keep_b_ keep_l_ keep_c_ i_ w => hostlaw_World_sweep.B3 w0_ keep_b_ keep_l_ keep_c_ i_ w N1 R)) h)
def hostlaw_World_sweep.B1 (w0 keep_b : Option Addr) (keep_l keep_c : Nat) (i : Int) (r s : Nat) (e : Int) (w : World) (N1 : Option Addr → Option Addr → Nat → Nat → Int → World → Prop)  (R : World → Prop) : Prop :=
  Bm (e == (0 : Int)) (
    LdB ⟨s, 7, none⟩ w fun x47 =>
    Bm x47 (
      LdI .i64 ⟨s, 6, none⟩ w fun x52 =>
      LdI .i64 ⟨r, 2, none⟩ w fun x54 =>
      hostlaw_World_sweep.B2 w0 keep_b keep_l keep_c i r (x52 == x54) w N1 R) (
      hostlaw_World_sweep.B2 w0 keep_b keep_l keep_c i r false w N1 R)) (
    hostlaw_World_sweep.B2 w0 keep_b keep_l keep_c i r false w N1 R)
theorem hostlaw_World_sweep.B1_eq (w0 keep_b : Option Addr) (keep_l keep_c : Nat) (i : Int) (r s : Nat) (e : Int) (w : World) (N1 : Option Addr → Option Addr → Nat → Nat → Int → World → Prop)  (R : World → Prop) (sB2 : Option Addr → Option Addr → Nat → Nat → Int → Nat → Bool → World → Prop) :
    (
  Bm (e == (0 : Int)) (
    LdB ⟨s, 7, none⟩ w fun x47 =>
    Bm x47 (
      LdI .i64 ⟨s, 6, none⟩ w fun x52 =>
      LdI .i64 ⟨r, 2, none⟩ w fun x54 =>
      sB2 w0 keep_b keep_l keep_c i r (x52 == x54) w) (
      sB2 w0 keep_b keep_l keep_c i r false w)) (
    sB2 w0 keep_b keep_l keep_c i r false w)) = kstep Tryz.prog 65 Tryz.f37.results.toList (Tryz.f37.body.getD .skip) (hostlaw_World_sweep.RV R) (kvc Tryz.prog 65 Tryz.f37.results.toList (Tryz.f37.body.getD .skip) (hostlaw_World_sweep.RV R) [([(0, [1, 0, 1, 0, 0, 1, 0, 0, 1, 1, 1]), (1, [1]), (0, [1, 0, 1, 0, 0, 1, 1]), (2, [1, 0, 1, 0, 0]), (1, [0]), (0, [1, 1])], fun σ w => dP (slotOf σ 0) fun w0_ => dL (slotOf σ 2) fun keep_b_ keep_l_ keep_c_ => dI .i64 (slotOf σ 3) fun i_ => dK (slotOf σ 4) fun r_ => dB (slotOf σ 56) fun t56_ => sB2 w0_ keep_b_ keep_l_ keep_c_ i_ r_ t56_ w)] 2000) [(0, [1, 0, 1, 0, 0, 1, 0, 0, 1, 1]), (1, [1]), (0, [1, 0, 1, 0, 0, 1, 1]), (2, [1, 0, 1, 0, 0]), (1, [0]), (0, [1, 1])] [(0, .pointer w0), (2, .slice keep_b keep_l keep_c), (3, .int .i64 i), (4, .pointer (some ⟨r, 0, none⟩)), (5, .pointer (some ⟨s, 0, none⟩)), (6, .int .i64 e)] w := by kernel_rfl
theorem hostlaw_World_sweep.B1_sound {R : World → Prop} {N1 : Option Addr → Option Addr → Nat → Nat → Int → World → Prop} (hN1 : ∀ w0 keep_b keep_l keep_c i w, N1 w0 keep_b keep_l keep_c i w → KW Tryz.prog 37 65 (hostlaw_World_sweep.RV R) ([(0, [1, 0, 1, 0, 0]), (2, [1, 0, 1, 0, 0]), (1, [0]), (0, [1, 1])].map (toItem (Tryz.f37.body.getD .skip))) [(0, .pointer w0), (2, .slice keep_b keep_l keep_c), (3, .int .i64 i)] w) (w0 keep_b : Option Addr) (keep_l keep_c : Nat) (i : Int) (r s : Nat) (e : Int) (w : World) (h : hostlaw_World_sweep.B1 w0 keep_b keep_l keep_c i r s e w N1  R) :
    KW Tryz.prog 37 65 (hostlaw_World_sweep.RV R) ([(0, [1, 0, 1, 0, 0, 1, 0, 0, 1, 1]), (1, [1]), (0, [1, 0, 1, 0, 0, 1, 1]), (2, [1, 0, 1, 0, 0]), (1, [0]), (0, [1, 1])].map (toItem (Tryz.f37.body.getD .skip))) [(0, .pointer w0), (2, .slice keep_b keep_l keep_c), (3, .int .i64 i), (4, .pointer (some ⟨r, 0, none⟩)), (5, .pointer (some ⟨s, 0, none⟩)), (6, .int .i64 e)] w := by
  exact block_spec Tryz.func37 Tryz.mixed (stops_cons (fun σ w h => by
      obtain ⟨w0_, e0, h⟩ := dP_elim h
      obtain ⟨keep_b_, keep_l_, keep_c_, e1, h⟩ := dL_elim h
      obtain ⟨i_, e2, h⟩ := dI_elim h
      obtain ⟨r_, e3, h⟩ := dK_elim h
      obtain ⟨t56_, e4, h⟩ := dB_elim h
      exact (hostlaw_World_sweep.B2_sound hN1 w0_ keep_b_ keep_l_ keep_c_ i_ r_ t56_ w h).weaken (Sub.cons (Sub.cons (Sub.cons (Sub.cons (Sub.cons (Sub.nil _) e4) e3) e2) e1) e0)) stops_nil) (Eq.mp (hostlaw_World_sweep.B1_eq w0 keep_b keep_l keep_c i r s e w N1  R (fun w0_ keep_b_ keep_l_ keep_c_ i_ r_ t56_ w => hostlaw_World_sweep.B2 w0_ keep_b_ keep_l_ keep_c_ i_ r_ t56_ w N1 R)) h)
def hostlaw_World_sweep.L1b (w0 keep_b : Option Addr) (keep_l keep_c : Nat) (i : Int) (w : World)  (N1 : Option Addr → Option Addr → Nat → Nat → Int → World → Prop) (R : World → Prop) : Prop :=
  Pn w0 fun a =>
  LdL (a.add 46) w fun x17_b x17_l x17_c =>
  Bm (decide (i < ((x17_l : Nat) : Int))) (
    Pn w0 fun a_1 =>
    LdL (a_1.add 46) w fun x25_b x25_l x25_c =>
    Pn x25_b fun a_2 =>
    (0 ≤ i ∧ i < ((x25_l : Nat) : Int)) ∧
    LdI .i64 (Addr.add a_2 (i.toNat * 3)) w fun x28_0 =>
    LdI .i64 ((Addr.add a_2 (i.toNat * 3)).add 1) w fun x28_1 =>
    LdI .i64 ((Addr.add a_2 (i.toNat * 3)).add 2) w fun x28_2 =>
    New (.cells #[.int .i64 (0 : Int), .int .i64 (0 : Int), .int .i64 (0 : Int)] 76) w fun r_ w1 =>
    Sts [.int .i64 x28_0, .int .i64 x28_1, .int .i64 x28_2] ⟨r_, 0, none⟩ 0 w1 fun w2 =>
    LdI .i64 ⟨r_, 0, none⟩ w2.drew fun x32 =>
    Pn w0 fun a_3 =>
    (0 ≤ x32 ∧ x32 < ((3 : Nat) : Int)) ∧
    LdP (Addr.add a_3 (x32.toNat * 1)) w2.drew fun x36 =>
    LdI .i64 ⟨r_, 1, none⟩ w2.drew fun x38 =>
    ((
      host_Host_Info.Call x36 x38 w2.drew fun r39_0_0 r39_0_1 r39_0_2 r39_0_3 r39_0_4 r39_0_5 r39_0_6 r39_0_7 r39_0_8 r39_1 w3 =>
      New (.cells #[.int .i64 (0 : Int), .int .i64 (0 : Int), .int .i64 (0 : Int), .int .i64 (0 : Int), .int .i64 (0 : Int), .int .i64 (0 : Int), .int .i64 (0 : Int), .bool false, .pointer none] 69) w3 fun s_ w4 =>
      Sts [.int .i64 r39_0_0, .int .i64 r39_0_1, .int .i64 r39_0_2, .int .i64 r39_0_3, .int .i64 r39_0_4, .int .i64 r39_0_5, .int .i64 r39_0_6, .bool r39_0_7, .pointer r39_0_8] ⟨s_, 0, none⟩ 0 w4 fun w5 =>
      hostlaw_World_sweep.B1 w0 keep_b keep_l keep_c i r_ s_ r39_1 w5 N1 R) ∧ (
      New (.cells #[.int .i64 (0 : Int), .int .i64 (0 : Int), .int .i64 (0 : Int), .int .i64 (0 : Int), .int .i64 (0 : Int), .int .i64 (0 : Int), .int .i64 (0 : Int), .bool false, .pointer none] 69) w2.drew fun s__1 w6 =>
      w6.cell? ⟨r_, 1, none⟩ = some (.int .i64 x38) ∧
      w6.cell? (Addr.add a_3 (x32.toNat * 1)) = some (.pointer x36) ∧
      w6.cell? ⟨r_, 0, none⟩ = some (.int .i64 x32) ∧
      host_Host_Info.Call x36 x38 w6 fun r39_0_0_1 r39_0_1_1 r39_0_2_1 r39_0_3_1 r39_0_4_1 r39_0_5_1 r39_0_6_1 r39_0_7_1 r39_0_8_1 r39_1_1 w7 =>
      Sts [.int .i64 r39_0_0_1, .int .i64 r39_0_1_1, .int .i64 r39_0_2_1, .int .i64 r39_0_3_1, .int .i64 r39_0_4_1, .int .i64 r39_0_5_1, .int .i64 r39_0_6_1, .bool r39_0_7_1, .pointer r39_0_8_1] ⟨s__1, 0, none⟩ 0 w7 fun w8 =>
      hostlaw_World_sweep.B1 w0 keep_b keep_l keep_c i r_ s__1 r39_1_1 w8 N1 R))) (
    Pn w0 fun a_4 =>
    Sts [.slice keep_b keep_l keep_c] (a_4.add 46) 0 w fun w9 =>
    R  w9)
theorem hostlaw_World_sweep.L1b_eq (w0 keep_b : Option Addr) (keep_l keep_c : Nat) (i : Int) (w : World)  (N1 : Option Addr → Option Addr → Nat → Nat → Int → World → Prop) (R : World → Prop) (sB1 : Option Addr → Option Addr → Nat → Nat → Int → Nat → Nat → Int → World → Prop) :
    (
  Pn w0 fun a =>
  LdL (a.add 46) w fun x17_b x17_l x17_c =>
  Bm (decide (i < ((x17_l : Nat) : Int))) (
    Pn w0 fun a_1 =>
    LdL (a_1.add 46) w fun x25_b x25_l x25_c =>
    Pn x25_b fun a_2 =>
    (0 ≤ i ∧ i < ((x25_l : Nat) : Int)) ∧
    LdI .i64 (Addr.add a_2 (i.toNat * 3)) w fun x28_0 =>
    LdI .i64 ((Addr.add a_2 (i.toNat * 3)).add 1) w fun x28_1 =>
    LdI .i64 ((Addr.add a_2 (i.toNat * 3)).add 2) w fun x28_2 =>
    New (.cells #[.int .i64 (0 : Int), .int .i64 (0 : Int), .int .i64 (0 : Int)] 76) w fun r_ w1 =>
    Sts [.int .i64 x28_0, .int .i64 x28_1, .int .i64 x28_2] ⟨r_, 0, none⟩ 0 w1 fun w2 =>
    LdI .i64 ⟨r_, 0, none⟩ w2.drew fun x32 =>
    Pn w0 fun a_3 =>
    (0 ≤ x32 ∧ x32 < ((3 : Nat) : Int)) ∧
    LdP (Addr.add a_3 (x32.toNat * 1)) w2.drew fun x36 =>
    LdI .i64 ⟨r_, 1, none⟩ w2.drew fun x38 =>
    ((
      host_Host_Info.Call x36 x38 w2.drew fun r39_0_0 r39_0_1 r39_0_2 r39_0_3 r39_0_4 r39_0_5 r39_0_6 r39_0_7 r39_0_8 r39_1 w3 =>
      New (.cells #[.int .i64 (0 : Int), .int .i64 (0 : Int), .int .i64 (0 : Int), .int .i64 (0 : Int), .int .i64 (0 : Int), .int .i64 (0 : Int), .int .i64 (0 : Int), .bool false, .pointer none] 69) w3 fun s_ w4 =>
      Sts [.int .i64 r39_0_0, .int .i64 r39_0_1, .int .i64 r39_0_2, .int .i64 r39_0_3, .int .i64 r39_0_4, .int .i64 r39_0_5, .int .i64 r39_0_6, .bool r39_0_7, .pointer r39_0_8] ⟨s_, 0, none⟩ 0 w4 fun w5 =>
      sB1 w0 keep_b keep_l keep_c i r_ s_ r39_1 w5) ∧ (
      New (.cells #[.int .i64 (0 : Int), .int .i64 (0 : Int), .int .i64 (0 : Int), .int .i64 (0 : Int), .int .i64 (0 : Int), .int .i64 (0 : Int), .int .i64 (0 : Int), .bool false, .pointer none] 69) w2.drew fun s__1 w6 =>
      w6.cell? ⟨r_, 1, none⟩ = some (.int .i64 x38) ∧
      w6.cell? (Addr.add a_3 (x32.toNat * 1)) = some (.pointer x36) ∧
      w6.cell? ⟨r_, 0, none⟩ = some (.int .i64 x32) ∧
      host_Host_Info.Call x36 x38 w6 fun r39_0_0_1 r39_0_1_1 r39_0_2_1 r39_0_3_1 r39_0_4_1 r39_0_5_1 r39_0_6_1 r39_0_7_1 r39_0_8_1 r39_1_1 w7 =>
      Sts [.int .i64 r39_0_0_1, .int .i64 r39_0_1_1, .int .i64 r39_0_2_1, .int .i64 r39_0_3_1, .int .i64 r39_0_4_1, .int .i64 r39_0_5_1, .int .i64 r39_0_6_1, .bool r39_0_7_1, .pointer r39_0_8_1] ⟨s__1, 0, none⟩ 0 w7 fun w8 =>
      sB1 w0 keep_b keep_l keep_c i r_ s__1 r39_1_1 w8))) (
    Pn w0 fun a_4 =>
    Sts [.slice keep_b keep_l keep_c] (a_4.add 46) 0 w fun w9 =>
    R  w9)) = kstep Tryz.prog 65 Tryz.f37.results.toList (Tryz.f37.body.getD .skip) (hostlaw_World_sweep.RV R) (kvc Tryz.prog 65 Tryz.f37.results.toList (Tryz.f37.body.getD .skip) (hostlaw_World_sweep.RV R) [([(0, [1, 0, 1, 0, 0, 1, 0, 0, 1, 1]), (1, [1]), (0, [1, 0, 1, 0, 0, 1, 1]), (2, [1, 0, 1, 0, 0]), (1, [0]), (0, [1, 1])], fun σ w => dP (slotOf σ 0) fun w0_ => dL (slotOf σ 2) fun keep_b_ keep_l_ keep_c_ => dI .i64 (slotOf σ 3) fun i_ => dK (slotOf σ 4) fun r_ => dK (slotOf σ 5) fun s_ => dI .i64 (slotOf σ 6) fun e_ => sB1 w0_ keep_b_ keep_l_ keep_c_ i_ r_ s_ e_ w)] 2000) [(0, [1, 0, 1, 0, 0]), (2, [1, 0, 1, 0, 0]), (1, [0]), (0, [1, 1])] [(0, .pointer w0), (2, .slice keep_b keep_l keep_c), (3, .int .i64 i)] w := by kernel_rfl
theorem hostlaw_World_sweep.L1b_sound {R : World → Prop} {N1 : Option Addr → Option Addr → Nat → Nat → Int → World → Prop} (hN1 : ∀ w0 keep_b keep_l keep_c i w, N1 w0 keep_b keep_l keep_c i w → KW Tryz.prog 37 65 (hostlaw_World_sweep.RV R) ([(0, [1, 0, 1, 0, 0]), (2, [1, 0, 1, 0, 0]), (1, [0]), (0, [1, 1])].map (toItem (Tryz.f37.body.getD .skip))) [(0, .pointer w0), (2, .slice keep_b keep_l keep_c), (3, .int .i64 i)] w) (w0 keep_b : Option Addr) (keep_l keep_c : Nat) (i : Int) (w : World) (h : hostlaw_World_sweep.L1b w0 keep_b keep_l keep_c i w  N1 R) :
    KW Tryz.prog 37 65 (hostlaw_World_sweep.RV R) ([(0, [1, 0, 1, 0, 0]), (2, [1, 0, 1, 0, 0]), (1, [0]), (0, [1, 1])].map (toItem (Tryz.f37.body.getD .skip))) [(0, .pointer w0), (2, .slice keep_b keep_l keep_c), (3, .int .i64 i)] w := by
  exact block_spec Tryz.func37 Tryz.mixed (stops_cons (fun σ w h => by
      obtain ⟨w0_, e0, h⟩ := dP_elim h
      obtain ⟨keep_b_, keep_l_, keep_c_, e1, h⟩ := dL_elim h
      obtain ⟨i_, e2, h⟩ := dI_elim h
      obtain ⟨r_, e3, h⟩ := dK_elim h
      obtain ⟨s_, e4, h⟩ := dK_elim h
      obtain ⟨e_, e5, h⟩ := dI_elim h
      exact (hostlaw_World_sweep.B1_sound hN1 w0_ keep_b_ keep_l_ keep_c_ i_ r_ s_ e_ w h).weaken (Sub.cons (Sub.cons (Sub.cons (Sub.cons (Sub.cons (Sub.cons (Sub.nil _) e5) e4) e3) e2) e1) e0)) stops_nil) (Eq.mp (hostlaw_World_sweep.L1b_eq w0 keep_b keep_l keep_c i w  N1 R (fun w0_ keep_b_ keep_l_ keep_c_ i_ r_ s_ e_ w => hostlaw_World_sweep.B1 w0_ keep_b_ keep_l_ keep_c_ i_ r_ s_ e_ w N1 R)) h)
def hostlaw_World_sweep.L1 (w0 keep_b : Option Addr) (keep_l keep_c : Nat) (i : Int) (w : World)  (R : World → Prop) : Prop :=
  ∃ (I : Nat → Option Addr → Option Addr → Nat → Nat → Int → World → Prop) (m : Nat), I m w0 keep_b keep_l keep_c i w ∧ ∀ m w0 keep_b keep_l keep_c i w, I m w0 keep_b keep_l keep_c i w → hostlaw_World_sweep.L1b w0 keep_b keep_l keep_c i w  (fun w0' keep_b' keep_l' keep_c' i' w' => ∃ m', m' < m ∧ I m' w0' keep_b' keep_l' keep_c' i' w') R
theorem hostlaw_World_sweep.L1_sound {R : World → Prop}  (w0 keep_b : Option Addr) (keep_l keep_c : Nat) (i : Int) (w : World) (h : hostlaw_World_sweep.L1 w0 keep_b keep_l keep_c i w  R) :
    KW Tryz.prog 37 65 (hostlaw_World_sweep.RV R) ([(0, [1, 0, 1, 0, 0]), (2, [1, 0, 1, 0, 0]), (1, [0]), (0, [1, 1])].map (toItem (Tryz.f37.body.getD .skip))) [(0, .pointer w0), (2, .slice keep_b keep_l keep_c), (3, .int .i64 i)] w := by
  obtain ⟨I, m, hBase, hr⟩ := h
  refine KW.loop (fun m σ w => ∃ (w0 keep_b : Option Addr) (keep_l keep_c : Nat) (i : Int), σ = [(0, .pointer w0), (2, .slice keep_b keep_l keep_c), (3, .int .i64 i)] ∧ I m w0 keep_b keep_l keep_c i w) ?_ m _ w ⟨w0, keep_b, keep_l, keep_c, i, rfl, hBase⟩
  rintro m ih σ w ⟨w0, keep_b, keep_l, keep_c, i, rfl, hI⟩
  exact hostlaw_World_sweep.L1b_sound  (N1 := fun w0' keep_b' keep_l' keep_c' i' w' => ∃ m', m' < m ∧ I m' w0' keep_b' keep_l' keep_c' i' w') (fun w0' keep_b' keep_l' keep_c' i' w' hx => by obtain ⟨m', hlt, hI'⟩ := hx; exact ih m' hlt _ w' ⟨w0', keep_b', keep_l', keep_c', i', rfl, hI'⟩) w0 keep_b keep_l keep_c i w (hr m w0 keep_b keep_l keep_c i w hI)
def hostlaw_World_sweep.B0 (w0 : Option Addr) (w : World)   (R : World → Prop) : Prop :=
  Pn w0 fun a =>
  LdL (a.add 46) w fun x10_b x10_l x10_c =>
  Make 76 (.agg #[.int .i64 (0 : Int), .int .i64 (0 : Int), .int .i64 (0 : Int)]) 3 24 (0 : Int) ((x10_l : Nat) : Int) w fun b12 w1 =>
  hostlaw_World_sweep.L1 w0 (some ⟨b12, 0, none⟩) 0 (((x10_l : Nat) : Int).toNat) (0 : Int) w1  R
theorem hostlaw_World_sweep.B0_eq (w0 : Option Addr) (w : World)   (R : World → Prop) (sL1 : Option Addr → Option Addr → Nat → Nat → Int → World → Prop) :
    (
  Pn w0 fun a =>
  LdL (a.add 46) w fun x10_b x10_l x10_c =>
  Make 76 (.agg #[.int .i64 (0 : Int), .int .i64 (0 : Int), .int .i64 (0 : Int)]) 3 24 (0 : Int) ((x10_l : Nat) : Int) w fun b12 w1 =>
  sL1 w0 (some ⟨b12, 0, none⟩) 0 (((x10_l : Nat) : Int).toNat) (0 : Int) w1) = kstep Tryz.prog 65 Tryz.f37.results.toList (Tryz.f37.body.getD .skip) (hostlaw_World_sweep.RV R) (kvc Tryz.prog 65 Tryz.f37.results.toList (Tryz.f37.body.getD .skip) (hostlaw_World_sweep.RV R) [([(0, [1, 0, 1, 0, 0]), (2, [1, 0, 1, 0, 0]), (1, [0]), (0, [1, 1])], fun σ w => dP (slotOf σ 0) fun w0_ => dL (slotOf σ 2) fun keep_b_ keep_l_ keep_c_ => dI .i64 (slotOf σ 3) fun i_ => sL1 w0_ keep_b_ keep_l_ keep_c_ i_ w)] 2000) [(0, [])] [(0, .pointer w0)] w := by kernel_rfl
theorem hostlaw_World_sweep.B0_sound {R : World → Prop}  (w0 : Option Addr) (w : World) (h : hostlaw_World_sweep.B0 w0 w   R) :
    KW Tryz.prog 37 65 (hostlaw_World_sweep.RV R) ([(0, [])].map (toItem (Tryz.f37.body.getD .skip))) [(0, .pointer w0)] w := by
  exact block_spec Tryz.func37 Tryz.mixed (stops_cons (fun σ w h => by
      obtain ⟨w0_, e0, h⟩ := dP_elim h
      obtain ⟨keep_b_, keep_l_, keep_c_, e1, h⟩ := dL_elim h
      obtain ⟨i_, e2, h⟩ := dI_elim h
      exact (hostlaw_World_sweep.L1_sound  w0_ keep_b_ keep_l_ keep_c_ i_ w h).weaken (Sub.cons (Sub.cons (Sub.cons (Sub.nil _) e2) e1) e0)) stops_nil) (Eq.mp (hostlaw_World_sweep.B0_eq w0 w   R (fun w0_ keep_b_ keep_l_ keep_c_ i_ w => hostlaw_World_sweep.L1 w0_ keep_b_ keep_l_ keep_c_ i_ w  R)) h)
theorem hostlaw_World_sweep.sound (w0 : Option Addr) (w : World) (R : World → Prop) (h : hostlaw_World_sweep.B0 w0 w R) : hostlaw_World_sweep.Call w0 w R := by
  have hc := calls_of_block (args := #[.pointer w0]) Tryz.func37 (body := (Tryz.f37.body.getD .skip)) (by kernel_rfl) (by kernel_rfl) (args_slot _) (hostlaw_World_sweep.B0_sound w0 w h)
  exact hc.mono fun e w' he => by
    obtain ⟨v, rfl, hv⟩ := he
    exact hostlaw_World_sweep.RV_elim hv
end Go.Proofs.Qxb6500424aGreat
