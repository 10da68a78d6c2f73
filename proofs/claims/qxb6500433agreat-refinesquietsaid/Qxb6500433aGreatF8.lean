import Derived.Test.Qxb6500433aGreatSig
set_option maxRecDepth 100000
set_option linter.unusedVariables false
open Go.Vc
namespace Go.Proofs.Qxb6500433aGreat
def synclaw_SameViews.B5 (a b : Option Addr) (p : Int) (t165 : Bool) (w : World) (N1 : Option Addr → Option Addr → Int → World → Prop)  (R : Bool → World → Prop) : Prop :=
  Bm t165 (
    R false w) (
    N1 a b (IntKind.i64.wrap (p + (1 : Int))) w)
theorem synclaw_SameViews.B5_eq (a b : Option Addr) (p : Int) (t165 : Bool) (w : World) (N1 : Option Addr → Option Addr → Int → World → Prop)  (R : Bool → World → Prop)  :
    (
  Bm t165 (
    R false w) (
    N1 a b (IntKind.i64.wrap (p + (1 : Int))) w)) = kstep Tryz.prog 166 Tryz.f89.results.toList (Tryz.f89.body.getD .skip) (synclaw_SameViews.RV R) (kvc Tryz.prog 166 Tryz.f89.results.toList (Tryz.f89.body.getD .skip) (synclaw_SameViews.RV R) [([(0, [1, 1, 1, 1, 1, 0, 1, 0, 0]), (2, [1, 1, 1, 1, 1, 0, 1, 0, 0]), (1, [0]), (0, [1, 1, 1, 1, 1, 1])], fun σ w => dP (slotOf σ 0) fun a_ => dP (slotOf σ 1) fun b_ => dI .i64 (slotOf σ 5) fun p_ => N1 a_ b_ p_ w)] 2000) [(0, [1, 1, 1, 1, 1, 0, 1, 0, 0, 1, 0, 0, 1]), (1, [1]), (0, [1, 1, 1, 1, 1, 0, 1, 0, 0, 1, 1]), (2, [1, 1, 1, 1, 1, 0, 1, 0, 0]), (1, [0]), (0, [1, 1, 1, 1, 1, 1])] [(0, .pointer a), (1, .pointer b), (5, .int .i64 p), (165, .bool t165)] w := by kernel_rfl
theorem synclaw_SameViews.B5_sound {R : Bool → World → Prop} {N1 : Option Addr → Option Addr → Int → World → Prop} (hN1 : ∀ a b p w, N1 a b p w → KW Tryz.prog 89 166 (synclaw_SameViews.RV R) ([(0, [1, 1, 1, 1, 1, 0, 1, 0, 0]), (2, [1, 1, 1, 1, 1, 0, 1, 0, 0]), (1, [0]), (0, [1, 1, 1, 1, 1, 1])].map (toItem (Tryz.f89.body.getD .skip))) [(0, .pointer a), (1, .pointer b), (5, .int .i64 p)] w) (a b : Option Addr) (p : Int) (t165 : Bool) (w : World) (h : synclaw_SameViews.B5 a b p t165 w N1  R) :
    KW Tryz.prog 89 166 (synclaw_SameViews.RV R) ([(0, [1, 1, 1, 1, 1, 0, 1, 0, 0, 1, 0, 0, 1]), (1, [1]), (0, [1, 1, 1, 1, 1, 0, 1, 0, 0, 1, 1]), (2, [1, 1, 1, 1, 1, 0, 1, 0, 0]), (1, [0]), (0, [1, 1, 1, 1, 1, 1])].map (toItem (Tryz.f89.body.getD .skip))) [(0, .pointer a), (1, .pointer b), (5, .int .i64 p), (165, .bool t165)] w := by
  exact block_spec Tryz.func89 Tryz.mixed (stops_cons (fun σ w h => by
      obtain ⟨a_, e0, h⟩ := dP_elim h
      obtain ⟨b_, e1, h⟩ := dP_elim h
      obtain ⟨p_, e2, h⟩ := dI_elim h
      exact (hN1 a_ b_ p_ w h).weaken (Sub.cons (Sub.cons (Sub.cons (Sub.nil _) e2) e1) e0)) stops_nil) (Eq.mp (synclaw_SameViews.B5_eq a b p t165 w N1  R ) h)
def synclaw_SameViews.L1b (a b : Option Addr) (p : Int) (w : World)  (N1 : Option Addr → Option Addr → Int → World → Prop) (R : Bool → World → Prop) : Prop :=
  Bm (decide (p < (3 : Int))) (
    Pn a fun a_1 =>
    (0 ≤ p ∧ p < ((3 : Nat) : Int)) ∧
    LdB (Addr.add (a_1.add 6) (p.toNat * 1)) w.drew fun x128 =>
    Pn b fun a_2 =>
    (0 ≤ p ∧ p < ((3 : Nat) : Int)) ∧
    LdB (Addr.add (a_2.add 6) (p.toNat * 1)) w.drew fun x134 =>
    Bm (!(x128 == x134)) (
      synclaw_SameViews.B5 a b p true w.drew N1 R) (
      Pn a fun a_3 =>
      (0 ≤ p ∧ p < ((3 : Nat) : Int)) ∧
      LdI .i64 (Addr.add (a_3.add 14) (p.toNat * 1)) w.drew fun x142 =>
      Pn b fun a_4 =>
      (0 ≤ p ∧ p < ((3 : Nat) : Int)) ∧
      LdI .i64 (Addr.add (a_4.add 14) (p.toNat * 1)) w.drew fun x148 =>
      Bm (x142 != x148) (
        synclaw_SameViews.B5 a b p true w.drew N1 R) (
        Pn a fun a_5 =>
        (0 ≤ p ∧ p < ((3 : Nat) : Int)) ∧
        LdI .i64 (Addr.add (a_5.add 17) (p.toNat * 1)) w.drew fun x157 =>
        Pn b fun a_6 =>
        (0 ≤ p ∧ p < ((3 : Nat) : Int)) ∧
        LdI .i64 (Addr.add (a_6.add 17) (p.toNat * 1)) w.drew fun x163 =>
        synclaw_SameViews.B5 a b p (x157 != x163) w.drew N1 R))) (
    R true w)
theorem synclaw_SameViews.L1b_eq (a b : Option Addr) (p : Int) (w : World)  (N1 : Option Addr → Option Addr → Int → World → Prop) (R : Bool → World → Prop) (sB5 : Option Addr → Option Addr → Int → Bool → World → Prop) :
    (
  Bm (decide (p < (3 : Int))) (
    Pn a fun a_1 =>
    (0 ≤ p ∧ p < ((3 : Nat) : Int)) ∧
    LdB (Addr.add (a_1.add 6) (p.toNat * 1)) w.drew fun x128 =>
    Pn b fun a_2 =>
    (0 ≤ p ∧ p < ((3 : Nat) : Int)) ∧
    LdB (Addr.add (a_2.add 6) (p.toNat * 1)) w.drew fun x134 =>
    Bm (!(x128 == x134)) (
      sB5 a b p true w.drew) (
      Pn a fun a_3 =>
      (0 ≤ p ∧ p < ((3 : Nat) : Int)) ∧
      LdI .i64 (Addr.add (a_3.add 14) (p.toNat * 1)) w.drew fun x142 =>
      Pn b fun a_4 =>
      (0 ≤ p ∧ p < ((3 : Nat) : Int)) ∧
      LdI .i64 (Addr.add (a_4.add 14) (p.toNat * 1)) w.drew fun x148 =>
      Bm (x142 != x148) (
        sB5 a b p true w.drew) (
        Pn a fun a_5 =>
        (0 ≤ p ∧ p < ((3 : Nat) : Int)) ∧
        LdI .i64 (Addr.add (a_5.add 17) (p.toNat * 1)) w.drew fun x157 =>
        Pn b fun a_6 =>
        (0 ≤ p ∧ p < ((3 : Nat) : Int)) ∧
        LdI .i64 (Addr.add (a_6.add 17) (p.toNat * 1)) w.drew fun x163 =>
        sB5 a b p (x157 != x163) w.drew))) (
    R true w)) = kstep Tryz.prog 166 Tryz.f89.results.toList (Tryz.f89.body.getD .skip) (synclaw_SameViews.RV R) (kvc Tryz.prog 166 Tryz.f89.results.toList (Tryz.f89.body.getD .skip) (synclaw_SameViews.RV R) [([(0, [1, 1, 1, 1, 1, 0, 1, 0, 0, 1, 0, 0, 1]), (1, [1]), (0, [1, 1, 1, 1, 1, 0, 1, 0, 0, 1, 1]), (2, [1, 1, 1, 1, 1, 0, 1, 0, 0]), (1, [0]), (0, [1, 1, 1, 1, 1, 1])], fun σ w => dP (slotOf σ 0) fun a_ => dP (slotOf σ 1) fun b_ => dI .i64 (slotOf σ 5) fun p_ => dB (slotOf σ 165) fun t165_ => sB5 a_ b_ p_ t165_ w)] 2000) [(0, [1, 1, 1, 1, 1, 0, 1, 0, 0]), (2, [1, 1, 1, 1, 1, 0, 1, 0, 0]), (1, [0]), (0, [1, 1, 1, 1, 1, 1])] [(0, .pointer a), (1, .pointer b), (5, .int .i64 p)] w := by kernel_rfl
theorem synclaw_SameViews.L1b_sound {R : Bool → World → Prop} {N1 : Option Addr → Option Addr → Int → World → Prop} (hN1 : ∀ a b p w, N1 a b p w → KW Tryz.prog 89 166 (synclaw_SameViews.RV R) ([(0, [1, 1, 1, 1, 1, 0, 1, 0, 0]), (2, [1, 1, 1, 1, 1, 0, 1, 0, 0]), (1, [0]), (0, [1, 1, 1, 1, 1, 1])].map (toItem (Tryz.f89.body.getD .skip))) [(0, .pointer a), (1, .pointer b), (5, .int .i64 p)] w) (a b : Option Addr) (p : Int) (w : World) (h : synclaw_SameViews.L1b a b p w  N1 R) :
    KW Tryz.prog 89 166 (synclaw_SameViews.RV R) ([(0, [1, 1, 1, 1, 1, 0, 1, 0, 0]), (2, [1, 1, 1, 1, 1, 0, 1, 0, 0]), (1, [0]), (0, [1, 1, 1, 1, 1, 1])].map (toItem (Tryz.f89.body.getD .skip))) [(0, .pointer a), (1, .pointer b), (5, .int .i64 p)] w := by
  exact block_spec Tryz.func89 Tryz.mixed (stops_cons (fun σ w h => by
      obtain ⟨a_, e0, h⟩ := dP_elim h
      obtain ⟨b_, e1, h⟩ := dP_elim h
      obtain ⟨p_, e2, h⟩ := dI_elim h
      obtain ⟨t165_, e3, h⟩ := dB_elim h
      exact (synclaw_SameViews.B5_sound hN1 a_ b_ p_ t165_ w h).weaken (Sub.cons (Sub.cons (Sub.cons (Sub.cons (Sub.nil _) e3) e2) e1) e0)) stops_nil) (Eq.mp (synclaw_SameViews.L1b_eq a b p w  N1 R (fun a_ b_ p_ t165_ w => synclaw_SameViews.B5 a_ b_ p_ t165_ w N1 R)) h)
def synclaw_SameViews.L1 (a b : Option Addr) (p : Int) (w : World)  (R : Bool → World → Prop) : Prop :=
  ∃ (I : Nat → Option Addr → Option Addr → Int → World → Prop) (m : Nat), I m a b p w ∧ ∀ m a b p w, I m a b p w → synclaw_SameViews.L1b a b p w  (fun a' b' p' w' => ∃ m', m' < m ∧ I m' a' b' p' w') R
theorem synclaw_SameViews.L1_sound {R : Bool → World → Prop}  (a b : Option Addr) (p : Int) (w : World) (h : synclaw_SameViews.L1 a b p w  R) :
    KW Tryz.prog 89 166 (synclaw_SameViews.RV R) ([(0, [1, 1, 1, 1, 1, 0, 1, 0, 0]), (2, [1, 1, 1, 1, 1, 0, 1, 0, 0]), (1, [0]), (0, [1, 1, 1, 1, 1, 1])].map (toItem (Tryz.f89.body.getD .skip))) [(0, .pointer a), (1, .pointer b), (5, .int .i64 p)] w := by
  obtain ⟨I, m, hBase, hr⟩ := h
  refine KW.loop (fun m σ w => ∃ (a b : Option Addr) (p : Int), σ = [(0, .pointer a), (1, .pointer b), (5, .int .i64 p)] ∧ I m a b p w) ?_ m _ w ⟨a, b, p, rfl, hBase⟩
  rintro m ih σ w ⟨a, b, p, rfl, hI⟩
  exact synclaw_SameViews.L1b_sound  (N1 := fun a' b' p' w' => ∃ m', m' < m ∧ I m' a' b' p' w') (fun a' b' p' w' hx => by obtain ⟨m', hlt, hI'⟩ := hx; exact ih m' hlt _ w' ⟨a', b', p', rfl, hI'⟩) a b p w (hr m a b p w hI)
def synclaw_SameViews.B4 (a b : Option Addr) (t118 : Bool) (w : World)   (R : Bool → World → Prop) : Prop :=
  Bm t118 (
    R false w) (
    synclaw_SameViews.L1 a b (0 : Int) w  R)
theorem synclaw_SameViews.B4_eq (a b : Option Addr) (t118 : Bool) (w : World)   (R : Bool → World → Prop) (sL1 : Option Addr → Option Addr → Int → World → Prop) :
    (
  Bm t118 (
    R false w) (
    sL1 a b (0 : Int) w)) = kstep Tryz.prog 166 Tryz.f89.results.toList (Tryz.f89.body.getD .skip) (synclaw_SameViews.RV R) (kvc Tryz.prog 166 Tryz.f89.results.toList (Tryz.f89.body.getD .skip) (synclaw_SameViews.RV R) [([(0, [1, 1, 1, 1, 1, 0, 1, 0, 0]), (2, [1, 1, 1, 1, 1, 0, 1, 0, 0]), (1, [0]), (0, [1, 1, 1, 1, 1, 1])], fun σ w => dP (slotOf σ 0) fun a_ => dP (slotOf σ 1) fun b_ => dI .i64 (slotOf σ 5) fun p_ => sL1 a_ b_ p_ w)] 2000) [(0, [1, 1, 1, 1, 0, 1]), (0, [1, 1, 1, 1, 1])] [(0, .pointer a), (1, .pointer b), (118, .bool t118)] w := by kernel_rfl
theorem synclaw_SameViews.B4_sound {R : Bool → World → Prop}  (a b : Option Addr) (t118 : Bool) (w : World) (h : synclaw_SameViews.B4 a b t118 w   R) :
    KW Tryz.prog 89 166 (synclaw_SameViews.RV R) ([(0, [1, 1, 1, 1, 0, 1]), (0, [1, 1, 1, 1, 1])].map (toItem (Tryz.f89.body.getD .skip))) [(0, .pointer a), (1, .pointer b), (118, .bool t118)] w := by
  exact block_spec Tryz.func89 Tryz.mixed (stops_cons (fun σ w h => by
      obtain ⟨a_, e0, h⟩ := dP_elim h
      obtain ⟨b_, e1, h⟩ := dP_elim h
      obtain ⟨p_, e2, h⟩ := dI_elim h
      exact (synclaw_SameViews.L1_sound  a_ b_ p_ w h).weaken (Sub.cons (Sub.cons (Sub.cons (Sub.nil _) e2) e1) e0)) stops_nil) (Eq.mp (synclaw_SameViews.B4_eq a b t118 w   R (fun a_ b_ p_ w => synclaw_SameViews.L1 a_ b_ p_ w  R)) h)
def synclaw_SameViews.B3 (a b : Option Addr) (t98 : Bool) (w : World)   (R : Bool → World → Prop) : Prop :=
  Bm t98 (
    R false w) (
    Pn a fun a_1 =>
    LdI .i64 (a_1.add 12) w.drew fun x102 =>
    Pn b fun a_2 =>
    LdI .i64 (a_2.add 12) w.drew fun x106 =>
    Bm (x102 != x106) (
      synclaw_SameViews.B4 a b true w.drew  R) (
      Pn a fun a_3 =>
      LdS (a_3.add 13) w.drew fun x112 =>
      Pn b fun a_4 =>
      LdS (a_4.add 13) w.drew fun x116 =>
      synclaw_SameViews.B4 a b (!(x112.toList == x116.toList)) w.drew  R))
theorem synclaw_SameViews.B3_eq (a b : Option Addr) (t98 : Bool) (w : World)   (R : Bool → World → Prop) (sB4 : Option Addr → Option Addr → Bool → World → Prop) :
    (
  Bm t98 (
    R false w) (
    Pn a fun a_1 =>
    LdI .i64 (a_1.add 12) w.drew fun x102 =>
    Pn b fun a_2 =>
    LdI .i64 (a_2.add 12) w.drew fun x106 =>
    Bm (x102 != x106) (
      sB4 a b true w.drew) (
      Pn a fun a_3 =>
      LdS (a_3.add 13) w.drew fun x112 =>
      Pn b fun a_4 =>
      LdS (a_4.add 13) w.drew fun x116 =>
      sB4 a b (!(x112.toList == x116.toList)) w.drew))) = kstep Tryz.prog 166 Tryz.f89.results.toList (Tryz.f89.body.getD .skip) (synclaw_SameViews.RV R) (kvc Tryz.prog 166 Tryz.f89.results.toList (Tryz.f89.body.getD .skip) (synclaw_SameViews.RV R) [([(0, [1, 1, 1, 1, 0, 1]), (0, [1, 1, 1, 1, 1])], fun σ w => dP (slotOf σ 0) fun a_ => dP (slotOf σ 1) fun b_ => dB (slotOf σ 118) fun t118_ => sB4 a_ b_ t118_ w)] 2000) [(0, [1, 1, 1, 0, 1]), (0, [1, 1, 1, 1])] [(0, .pointer a), (1, .pointer b), (98, .bool t98)] w := by kernel_rfl
theorem synclaw_SameViews.B3_sound {R : Bool → World → Prop}  (a b : Option Addr) (t98 : Bool) (w : World) (h : synclaw_SameViews.B3 a b t98 w   R) :
    KW Tryz.prog 89 166 (synclaw_SameViews.RV R) ([(0, [1, 1, 1, 0, 1]), (0, [1, 1, 1, 1])].map (toItem (Tryz.f89.body.getD .skip))) [(0, .pointer a), (1, .pointer b), (98, .bool t98)] w := by
  exact block_spec Tryz.func89 Tryz.mixed (stops_cons (fun σ w h => by
      obtain ⟨a_, e0, h⟩ := dP_elim h
      obtain ⟨b_, e1, h⟩ := dP_elim h
      obtain ⟨t118_, e2, h⟩ := dB_elim h
      exact (synclaw_SameViews.B4_sound  a_ b_ t118_ w h).weaken (Sub.cons (Sub.cons (Sub.cons (Sub.nil _) e2) e1) e0)) stops_nil) (Eq.mp (synclaw_SameViews.B3_eq a b t98 w   R (fun a_ b_ t118_ w => synclaw_SameViews.B4 a_ b_ t118_ w  R)) h)
def synclaw_SameViews.B2 (a b : Option Addr) (t67 : Bool) (w : World)   (R : Bool → World → Prop) : Prop :=
  Bm t67 (
    R false w) (
    Pn a fun a_1 =>
    LdI .i64 (a_1.add 9) w.drew fun x71 =>
    Pn b fun a_2 =>
    LdI .i64 (a_2.add 9) w.drew fun x75 =>
    Bm (x71 != x75) (
      synclaw_SameViews.B3 a b true w.drew  R) (
      Pn a fun a_3 =>
      LdI .i64 (a_3.add 10) w.drew fun x81 =>
      Pn b fun a_4 =>
      LdI .i64 (a_4.add 10) w.drew fun x85 =>
      Bm (x81 != x85) (
        synclaw_SameViews.B3 a b true w.drew  R) (
        Pn a fun a_5 =>
        LdI .i64 (a_5.add 11) w.drew fun x92 =>
        Pn b fun a_6 =>
        LdI .i64 (a_6.add 11) w.drew fun x96 =>
        synclaw_SameViews.B3 a b (x92 != x96) w.drew  R)))
theorem synclaw_SameViews.B2_eq (a b : Option Addr) (t67 : Bool) (w : World)   (R : Bool → World → Prop) (sB3 : Option Addr → Option Addr → Bool → World → Prop) :
    (
  Bm t67 (
    R false w) (
    Pn a fun a_1 =>
    LdI .i64 (a_1.add 9) w.drew fun x71 =>
    Pn b fun a_2 =>
    LdI .i64 (a_2.add 9) w.drew fun x75 =>
    Bm (x71 != x75) (
      sB3 a b true w.drew) (
      Pn a fun a_3 =>
      LdI .i64 (a_3.add 10) w.drew fun x81 =>
      Pn b fun a_4 =>
      LdI .i64 (a_4.add 10) w.drew fun x85 =>
      Bm (x81 != x85) (
        sB3 a b true w.drew) (
        Pn a fun a_5 =>
        LdI .i64 (a_5.add 11) w.drew fun x92 =>
        Pn b fun a_6 =>
        LdI .i64 (a_6.add 11) w.drew fun x96 =>
        sB3 a b (x92 != x96) w.drew)))) = kstep Tryz.prog 166 Tryz.f89.results.toList (Tryz.f89.body.getD .skip) (synclaw_SameViews.RV R) (kvc Tryz.prog 166 Tryz.f89.results.toList (Tryz.f89.body.getD .skip) (synclaw_SameViews.RV R) [([(0, [1, 1, 1, 0, 1]), (0, [1, 1, 1, 1])], fun σ w => dP (slotOf σ 0) fun a_ => dP (slotOf σ 1) fun b_ => dB (slotOf σ 98) fun t98_ => sB3 a_ b_ t98_ w)] 2000) [(0, [1, 1, 0, 1]), (0, [1, 1, 1])] [(0, .pointer a), (1, .pointer b), (67, .bool t67)] w := by kernel_rfl
theorem synclaw_SameViews.B2_sound {R : Bool → World → Prop}  (a b : Option Addr) (t67 : Bool) (w : World) (h : synclaw_SameViews.B2 a b t67 w   R) :
    KW Tryz.prog 89 166 (synclaw_SameViews.RV R) ([(0, [1, 1, 0, 1]), (0, [1, 1, 1])].map (toItem (Tryz.f89.body.getD .skip))) [(0, .pointer a), (1, .pointer b), (67, .bool t67)] w := by
  exact block_spec Tryz.func89 Tryz.mixed (stops_cons (fun σ w h => by
      obtain ⟨a_, e0, h⟩ := dP_elim h
      obtain ⟨b_, e1, h⟩ := dP_elim h
      obtain ⟨t98_, e2, h⟩ := dB_elim h
      exact (synclaw_SameViews.B3_sound  a_ b_ t98_ w h).weaken (Sub.cons (Sub.cons (Sub.cons (Sub.nil _) e2) e1) e0)) stops_nil) (Eq.mp (synclaw_SameViews.B2_eq a b t67 w   R (fun a_ b_ t98_ w => synclaw_SameViews.B3 a_ b_ t98_ w  R)) h)
def synclaw_SameViews.B1 (a b : Option Addr) (t36 : Bool) (w : World)   (R : Bool → World → Prop) : Prop :=
  Bm t36 (
    R false w) (
    Pn a fun a_1 =>
    LdI .i64 (a_1.add 3) w.drew fun x40 =>
    Pn b fun a_2 =>
    LdI .i64 (a_2.add 3) w.drew fun x44 =>
    Bm (x40 != x44) (
      synclaw_SameViews.B2 a b true w.drew  R) (
      Pn a fun a_3 =>
      LdI .i64 (a_3.add 4) w.drew fun x50 =>
      Pn b fun a_4 =>
      LdI .i64 (a_4.add 4) w.drew fun x54 =>
      Bm (x50 != x54) (
        synclaw_SameViews.B2 a b true w.drew  R) (
        Pn a fun a_5 =>
        LdI .i64 (a_5.add 5) w.drew fun x61 =>
        Pn b fun a_6 =>
        LdI .i64 (a_6.add 5) w.drew fun x65 =>
        synclaw_SameViews.B2 a b (x61 != x65) w.drew  R)))
theorem synclaw_SameViews.B1_eq (a b : Option Addr) (t36 : Bool) (w : World)   (R : Bool → World → Prop) (sB2 : Option Addr → Option Addr → Bool → World → Prop) :
    (
  Bm t36 (
    R false w) (
    Pn a fun a_1 =>
    LdI .i64 (a_1.add 3) w.drew fun x40 =>
    Pn b fun a_2 =>
    LdI .i64 (a_2.add 3) w.drew fun x44 =>
    Bm (x40 != x44) (
      sB2 a b true w.drew) (
      Pn a fun a_3 =>
      LdI .i64 (a_3.add 4) w.drew fun x50 =>
      Pn b fun a_4 =>
      LdI .i64 (a_4.add 4) w.drew fun x54 =>
      Bm (x50 != x54) (
        sB2 a b true w.drew) (
        Pn a fun a_5 =>
        LdI .i64 (a_5.add 5) w.drew fun x61 =>
        Pn b fun a_6 =>
        LdI .i64 (a_6.add 5) w.drew fun x65 =>
        sB2 a b (x61 != x65) w.drew)))) = kstep Tryz.prog 166 Tryz.f89.results.toList (Tryz.f89.body.getD .skip) (synclaw_SameViews.RV R) (kvc Tryz.prog 166 Tryz.f89.results.toList (Tryz.f89.body.getD .skip) (synclaw_SameViews.RV R) [([(0, [1, 1, 0, 1]), (0, [1, 1, 1])], fun σ w => dP (slotOf σ 0) fun a_ => dP (slotOf σ 1) fun b_ => dB (slotOf σ 67) fun t67_ => sB2 a_ b_ t67_ w)] 2000) [(0, [1, 0, 1]), (0, [1, 1])] [(0, .pointer a), (1, .pointer b), (36, .bool t36)] w := by kernel_rfl
theorem synclaw_SameViews.B1_sound {R : Bool → World → Prop}  (a b : Option Addr) (t36 : Bool) (w : World) (h : synclaw_SameViews.B1 a b t36 w   R) :
    KW Tryz.prog 89 166 (synclaw_SameViews.RV R) ([(0, [1, 0, 1]), (0, [1, 1])].map (toItem (Tryz.f89.body.getD .skip))) [(0, .pointer a), (1, .pointer b), (36, .bool t36)] w := by
  exact block_spec Tryz.func89 Tryz.mixed (stops_cons (fun σ w h => by
      obtain ⟨a_, e0, h⟩ := dP_elim h
      obtain ⟨b_, e1, h⟩ := dP_elim h
      obtain ⟨t67_, e2, h⟩ := dB_elim h
      exact (synclaw_SameViews.B2_sound  a_ b_ t67_ w h).weaken (Sub.cons (Sub.cons (Sub.cons (Sub.nil _) e2) e1) e0)) stops_nil) (Eq.mp (synclaw_SameViews.B1_eq a b t36 w   R (fun a_ b_ t67_ w => synclaw_SameViews.B2 a_ b_ t67_ w  R)) h)
def synclaw_SameViews.B0 (a b : Option Addr) (w : World)   (R : Bool → World → Prop) : Prop :=
  Pn a fun a_1 =>
  LdI .i64 a_1 w.drew fun x9 =>
  Pn b fun a_2 =>
  LdI .i64 a_2 w.drew fun x13 =>
  Bm (x9 != x13) (
    synclaw_SameViews.B1 a b true w.drew  R) (
    Pn a fun a_3 =>
    LdI .i64 (a_3.add 1) w.drew fun x19 =>
    Pn b fun a_4 =>
    LdI .i64 (a_4.add 1) w.drew fun x23 =>
    Bm (x19 != x23) (
      synclaw_SameViews.B1 a b true w.drew  R) (
      Pn a fun a_5 =>
      LdI .i64 (a_5.add 2) w.drew fun x30 =>
      Pn b fun a_6 =>
      LdI .i64 (a_6.add 2) w.drew fun x34 =>
      synclaw_SameViews.B1 a b (x30 != x34) w.drew  R))
theorem synclaw_SameViews.B0_eq (a b : Option Addr) (w : World)   (R : Bool → World → Prop) (sB1 : Option Addr → Option Addr → Bool → World → Prop) :
    (
  Pn a fun a_1 =>
  LdI .i64 a_1 w.drew fun x9 =>
  Pn b fun a_2 =>
  LdI .i64 a_2 w.drew fun x13 =>
  Bm (x9 != x13) (
    sB1 a b true w.drew) (
    Pn a fun a_3 =>
    LdI .i64 (a_3.add 1) w.drew fun x19 =>
    Pn b fun a_4 =>
    LdI .i64 (a_4.add 1) w.drew fun x23 =>
    Bm (x19 != x23) (
      sB1 a b true w.drew) (
      Pn a fun a_5 =>
      LdI .i64 (a_5.add 2) w.drew fun x30 =>
      Pn b fun a_6 =>
      LdI .i64 (a_6.add 2) w.drew fun x34 =>
      sB1 a b (x30 != x34) w.drew))) = kstep Tryz.prog 166 Tryz.f89.results.toList (Tryz.f89.body.getD .skip) (synclaw_SameViews.RV R) (kvc Tryz.prog 166 Tryz.f89.results.toList (Tryz.f89.body.getD .skip) (synclaw_SameViews.RV R) [([(0, [1, 0, 1]), (0, [1, 1])], fun σ w => dP (slotOf σ 0) fun a_ => dP (slotOf σ 1) fun b_ => dB (slotOf σ 36) fun t36_ => sB1 a_ b_ t36_ w)] 2000) [(0, [])] [(0, .pointer a), (1, .pointer b)] w := by kernel_rfl
theorem synclaw_SameViews.B0_sound {R : Bool → World → Prop}  (a b : Option Addr) (w : World) (h : synclaw_SameViews.B0 a b w   R) :
    KW Tryz.prog 89 166 (synclaw_SameViews.RV R) ([(0, [])].map (toItem (Tryz.f89.body.getD .skip))) [(0, .pointer a), (1, .pointer b)] w := by
  exact block_spec Tryz.func89 Tryz.mixed (stops_cons (fun σ w h => by
      obtain ⟨a_, e0, h⟩ := dP_elim h
      obtain ⟨b_, e1, h⟩ := dP_elim h
      obtain ⟨t36_, e2, h⟩ := dB_elim h
      exact (synclaw_SameViews.B1_sound  a_ b_ t36_ w h).weaken (Sub.cons (Sub.cons (Sub.cons (Sub.nil _) e2) e1) e0)) stops_nil) (Eq.mp (synclaw_SameViews.B0_eq a b w   R (fun a_ b_ t36_ w => synclaw_SameViews.B1 a_ b_ t36_ w  R)) h)
theorem synclaw_SameViews.sound (a b : Option Addr) (w : World) (R : Bool → World → Prop) (h : synclaw_SameViews.B0 a b w R) : synclaw_SameViews.Call a b w R := by
  have hc := calls_of_block (args := #[.pointer a, .pointer b]) Tryz.func89 (body := (Tryz.f89.body.getD .skip)) (by kernel_rfl) (by kernel_rfl) (args_slot _) (synclaw_SameViews.B0_sound a b w h)
  exact hc.mono fun e w' he => by
    obtain ⟨v, rfl, hv⟩ := he
    exact synclaw_SameViews.RV_elim hv
def electm_Elect_Term.B0 (e : Option Addr) (w : World)   (R : Int → World → Prop) : Prop :=
  Pn e fun a =>
  LdI .i64 (a.add 1) w fun x6 =>
  R x6 w
theorem electm_Elect_Term.B0_eq (e : Option Addr) (w : World)   (R : Int → World → Prop)  :
    (
  Pn e fun a =>
  LdI .i64 (a.add 1) w fun x6 =>
  R x6 w) = kstep Tryz.prog 7 Tryz.f90.results.toList (Tryz.f90.body.getD .skip) (electm_Elect_Term.RV R) (kvc Tryz.prog 7 Tryz.f90.results.toList (Tryz.f90.body.getD .skip) (electm_Elect_Term.RV R) [] 2000) [(0, [])] [(0, .pointer e)] w := by kernel_rfl
theorem electm_Elect_Term.B0_sound {R : Int → World → Prop}  (e : Option Addr) (w : World) (h : electm_Elect_Term.B0 e w   R) :
    KW Tryz.prog 90 7 (electm_Elect_Term.RV R) ([(0, [])].map (toItem (Tryz.f90.body.getD .skip))) [(0, .pointer e)] w := by
  exact block_spec Tryz.func90 Tryz.mixed stops_nil (Eq.mp (electm_Elect_Term.B0_eq e w   R ) h)
theorem electm_Elect_Term.sound (e : Option Addr) (w : World) (R : Int → World → Prop) (h : electm_Elect_Term.B0 e w R) : electm_Elect_Term.Call e w R := by
  have hc := calls_of_block (args := #[.pointer e]) Tryz.func90 (body := (Tryz.f90.body.getD .skip)) (by kernel_rfl) (by kernel_rfl) (args_slot _) (electm_Elect_Term.B0_sound e w h)
  exact hc.mono fun e w' he => by
    obtain ⟨v, rfl, hv⟩ := he
    exact electm_Elect_Term.RV_elim hv
def electm_Elect_Vote.B0 (e : Option Addr) (w : World)   (R : Int → World → Prop) : Prop :=
  Pn e fun a =>
  LdI .i64 (a.add 2) w fun x6 =>
  R x6 w
theorem electm_Elect_Vote.B0_eq (e : Option Addr) (w : World)   (R : Int → World → Prop)  :
    (
  Pn e fun a =>
  LdI .i64 (a.add 2) w fun x6 =>
  R x6 w) = kstep Tryz.prog 7 Tryz.f91.results.toList (Tryz.f91.body.getD .skip) (electm_Elect_Vote.RV R) (kvc Tryz.prog 7 Tryz.f91.results.toList (Tryz.f91.body.getD .skip) (electm_Elect_Vote.RV R) [] 2000) [(0, [])] [(0, .pointer e)] w := by kernel_rfl
theorem electm_Elect_Vote.B0_sound {R : Int → World → Prop}  (e : Option Addr) (w : World) (h : electm_Elect_Vote.B0 e w   R) :
    KW Tryz.prog 91 7 (electm_Elect_Vote.RV R) ([(0, [])].map (toItem (Tryz.f91.body.getD .skip))) [(0, .pointer e)] w := by
  exact block_spec Tryz.func91 Tryz.mixed stops_nil (Eq.mp (electm_Elect_Vote.B0_eq e w   R ) h)
theorem electm_Elect_Vote.sound (e : Option Addr) (w : World) (R : Int → World → Prop) (h : electm_Elect_Vote.B0 e w R) : electm_Elect_Vote.Call e w R := by
  have hc := calls_of_block (args := #[.pointer e]) Tryz.func91 (body := (Tryz.f91.body.getD .skip)) (by kernel_rfl) (by kernel_rfl) (args_slot _) (electm_Elect_Vote.B0_sound e w h)
  exact hc.mono fun e w' he => by
    obtain ⟨v, rfl, hv⟩ := he
    exact electm_Elect_Vote.RV_elim hv
def electm_Elect_Role.B0 (e : Option Addr) (w : World)   (R : Int → World → Prop) : Prop :=
  Pn e fun a =>
  LdI .i64 (a.add 3) w fun x6 =>
  R x6 w
theorem electm_Elect_Role.B0_eq (e : Option Addr) (w : World)   (R : Int → World → Prop)  :
    (
  Pn e fun a =>
  LdI .i64 (a.add 3) w fun x6 =>
  R x6 w) = kstep Tryz.prog 7 Tryz.f92.results.toList (Tryz.f92.body.getD .skip) (electm_Elect_Role.RV R) (kvc Tryz.prog 7 Tryz.f92.results.toList (Tryz.f92.body.getD .skip) (electm_Elect_Role.RV R) [] 2000) [(0, [])] [(0, .pointer e)] w := by kernel_rfl
theorem electm_Elect_Role.B0_sound {R : Int → World → Prop}  (e : Option Addr) (w : World) (h : electm_Elect_Role.B0 e w   R) :
    KW Tryz.prog 92 7 (electm_Elect_Role.RV R) ([(0, [])].map (toItem (Tryz.f92.body.getD .skip))) [(0, .pointer e)] w := by
  exact block_spec Tryz.func92 Tryz.mixed stops_nil (Eq.mp (electm_Elect_Role.B0_eq e w   R ) h)
theorem electm_Elect_Role.sound (e : Option Addr) (w : World) (R : Int → World → Prop) (h : electm_Elect_Role.B0 e w R) : electm_Elect_Role.Call e w R := by
  have hc := calls_of_block (args := #[.pointer e]) Tryz.func92 (body := (Tryz.f92.body.getD .skip)) (by kernel_rfl) (by kernel_rfl) (args_slot _) (electm_Elect_Role.B0_sound e w h)
  exact hc.mono fun e w' he => by
    obtain ⟨v, rfl, hv⟩ := he
    exact electm_Elect_Role.RV_elim hv
def electm_Elect_Leader.B0 (e : Option Addr) (w : World)   (R : Int → World → Prop) : Prop :=
  Pn e fun a =>
  LdI .i64 (a.add 4) w fun x6 =>
  R x6 w
theorem electm_Elect_Leader.B0_eq (e : Option Addr) (w : World)   (R : Int → World → Prop)  :
    (
  Pn e fun a =>
  LdI .i64 (a.add 4) w fun x6 =>
  R x6 w) = kstep Tryz.prog 7 Tryz.f93.results.toList (Tryz.f93.body.getD .skip) (electm_Elect_Leader.RV R) (kvc Tryz.prog 7 Tryz.f93.results.toList (Tryz.f93.body.getD .skip) (electm_Elect_Leader.RV R) [] 2000) [(0, [])] [(0, .pointer e)] w := by kernel_rfl
theorem electm_Elect_Leader.B0_sound {R : Int → World → Prop}  (e : Option Addr) (w : World) (h : electm_Elect_Leader.B0 e w   R) :
    KW Tryz.prog 93 7 (electm_Elect_Leader.RV R) ([(0, [])].map (toItem (Tryz.f93.body.getD .skip))) [(0, .pointer e)] w := by
  exact block_spec Tryz.func93 Tryz.mixed stops_nil (Eq.mp (electm_Elect_Leader.B0_eq e w   R ) h)
theorem electm_Elect_Leader.sound (e : Option Addr) (w : World) (R : Int → World → Prop) (h : electm_Elect_Leader.B0 e w R) : electm_Elect_Leader.Call e w R := by
  have hc := calls_of_block (args := #[.pointer e]) Tryz.func93 (body := (Tryz.f93.body.getD .skip)) (by kernel_rfl) (by kernel_rfl) (args_slot _) (electm_Elect_Leader.B0_sound e w h)
  exact hc.mono fun e w' he => by
    obtain ⟨v, rfl, hv⟩ := he
    exact electm_Elect_Leader.RV_elim hv
def electm_Elect_Clock.B0 (e : Option Addr) (w : World)   (R : Int → World → Prop) : Prop :=
  Pn e fun a =>
  LdI .i64 (a.add 5) w fun x6 =>
  R x6 w
theorem electm_Elect_Clock.B0_eq (e : Option Addr) (w : World)   (R : Int → World → Prop)  :
    (
  Pn e fun a =>
  LdI .i64 (a.add 5) w fun x6 =>
  R x6 w) = kstep Tryz.prog 7 Tryz.f94.results.toList (Tryz.f94.body.getD .skip) (electm_Elect_Clock.RV R) (kvc Tryz.prog 7 Tryz.f94.results.toList (Tryz.f94.body.getD .skip) (electm_Elect_Clock.RV R) [] 2000) [(0, [])] [(0, .pointer e)] w := by kernel_rfl
theorem electm_Elect_Clock.B0_sound {R : Int → World → Prop}  (e : Option Addr) (w : World) (h : electm_Elect_Clock.B0 e w   R) :
    KW Tryz.prog 94 7 (electm_Elect_Clock.RV R) ([(0, [])].map (toItem (Tryz.f94.body.getD .skip))) [(0, .pointer e)] w := by
  exact block_spec Tryz.func94 Tryz.mixed stops_nil (Eq.mp (electm_Elect_Clock.B0_eq e w   R ) h)
theorem electm_Elect_Clock.sound (e : Option Addr) (w : World) (R : Int → World → Prop) (h : electm_Elect_Clock.B0 e w R) : electm_Elect_Clock.Call e w R := by
  have hc := calls_of_block (args := #[.pointer e]) Tryz.func94 (body := (Tryz.f94.body.getD .skip)) (by kernel_rfl) (by kernel_rfl) (args_slot _) (electm_Elect_Clock.B0_sound e w h)
  exact hc.mono fun e w' he => by
    obtain ⟨v, rfl, hv⟩ := he
    exact electm_Elect_Clock.RV_elim hv
def electm_Elect_Got.B0 (e : Option Addr) (p : Int) (w : World)   (R : Bool → World → Prop) : Prop :=
  Bm (decide (p ≥ (0 : Int))) (
    Bm (decide (p < (3 : Int))) (
      Pn e fun a =>
      (0 ≤ p ∧ p < ((3 : Nat) : Int)) ∧
      LdB (Addr.add (a.add 6) (p.toNat * 1)) w fun x17 =>
      R x17 w) (
      R false w)) (
    R false w)
theorem electm_Elect_Got.B0_eq (e : Option Addr) (p : Int) (w : World)   (R : Bool → World → Prop)  :
    (
  Bm (decide (p ≥ (0 : Int))) (
    Bm (decide (p < (3 : Int))) (
      Pn e fun a =>
      (0 ≤ p ∧ p < ((3 : Nat) : Int)) ∧
      LdB (Addr.add (a.add 6) (p.toNat * 1)) w fun x17 =>
      R x17 w) (
      R false w)) (
    R false w)) = kstep Tryz.prog 19 Tryz.f95.results.toList (Tryz.f95.body.getD .skip) (electm_Elect_Got.RV R) (kvc Tryz.prog 19 Tryz.f95.results.toList (Tryz.f95.body.getD .skip) (electm_Elect_Got.RV R) [] 2000) [(0, [])] [(0, .pointer e), (1, .int .i64 p)] w := by kernel_rfl
theorem electm_Elect_Got.B0_sound {R : Bool → World → Prop}  (e : Option Addr) (p : Int) (w : World) (h : electm_Elect_Got.B0 e p w   R) :
    KW Tryz.prog 95 19 (electm_Elect_Got.RV R) ([(0, [])].map (toItem (Tryz.f95.body.getD .skip))) [(0, .pointer e), (1, .int .i64 p)] w := by
  exact block_spec Tryz.func95 Tryz.mixed stops_nil (Eq.mp (electm_Elect_Got.B0_eq e p w   R ) h)
theorem electm_Elect_Got.sound (e : Option Addr) (p : Int) (w : World) (R : Bool → World → Prop) (h : electm_Elect_Got.B0 e p w R) : electm_Elect_Got.Call e p w R := by
  have hc := calls_of_block (args := #[.pointer e, .int .i64 p]) Tryz.func95 (body := (Tryz.f95.body.getD .skip)) (by kernel_rfl) (by kernel_rfl) (args_slot _) (electm_Elect_Got.B0_sound e p w h)
  exact hc.mono fun e w' he => by
    obtain ⟨v, rfl, hv⟩ := he
    exact electm_Elect_Got.RV_elim hv
def rlogm_Log_BaseTerm.B0 (l : Option Addr) (w : World)   (R : Int → World → Prop) : Prop :=
  Pn l fun a =>
  LdP a w fun x6 =>
  Pn x6 fun a_1 =>
  LdI .i64 (a_1.add 3) w fun x9 =>
  R x9 w
theorem rlogm_Log_BaseTerm.B0_eq (l : Option Addr) (w : World)   (R : Int → World → Prop)  :
    (
  Pn l fun a =>
  LdP a w fun x6 =>
  Pn x6 fun a_1 =>
  LdI .i64 (a_1.add 3) w fun x9 =>
  R x9 w) = kstep Tryz.prog 10 Tryz.f96.results.toList (Tryz.f96.body.getD .skip) (rlogm_Log_BaseTerm.RV R) (kvc Tryz.prog 10 Tryz.f96.results.toList (Tryz.f96.body.getD .skip) (rlogm_Log_BaseTerm.RV R) [] 2000) [(0, [])] [(0, .pointer l)] w := by kernel_rfl
theorem rlogm_Log_BaseTerm.B0_sound {R : Int → World → Prop}  (l : Option Addr) (w : World) (h : rlogm_Log_BaseTerm.B0 l w   R) :
    KW Tryz.prog 96 10 (rlogm_Log_BaseTerm.RV R) ([(0, [])].map (toItem (Tryz.f96.body.getD .skip))) [(0, .pointer l)] w := by
  exact block_spec Tryz.func96 Tryz.mixed stops_nil (Eq.mp (rlogm_Log_BaseTerm.B0_eq l w   R ) h)
theorem rlogm_Log_BaseTerm.sound (l : Option Addr) (w : World) (R : Int → World → Prop) (h : rlogm_Log_BaseTerm.B0 l w R) : rlogm_Log_BaseTerm.Call l w R := by
  have hc := calls_of_block (args := #[.pointer l]) Tryz.func96 (body := (Tryz.f96.body.getD .skip)) (by kernel_rfl) (by kernel_rfl) (args_slot _) (rlogm_Log_BaseTerm.B0_sound l w h)
  exact hc.mono fun e w' he => by
    obtain ⟨v, rfl, hv⟩ := he
    exact rlogm_Log_BaseTerm.RV_elim hv
def rlogm_Log_Last.B0 (l : Option Addr) (w : World)   (R : Int → World → Prop) : Prop :=
  Pn l fun a =>
  LdP a w.drew fun x6 =>
  Pn x6 fun a_1 =>
  LdI .i64 (a_1.add 2) w.drew fun x9 =>
  Pn l fun a_2 =>
  LdP a_2 w.drew fun x13 =>
  Pn x13 fun a_3 =>
  LdI .i64 (a_3.add 5) w.drew fun x16 =>
  R (IntKind.i64.wrap (x9 + x16)) w.drew
theorem rlogm_Log_Last.B0_eq (l : Option Addr) (w : World)   (R : Int → World → Prop)  :
    (
  Pn l fun a =>
  LdP a w.drew fun x6 =>
  Pn x6 fun a_1 =>
  LdI .i64 (a_1.add 2) w.drew fun x9 =>
  Pn l fun a_2 =>
  LdP a_2 w.drew fun x13 =>
  Pn x13 fun a_3 =>
  LdI .i64 (a_3.add 5) w.drew fun x16 =>
  R (IntKind.i64.wrap (x9 + x16)) w.drew) = kstep Tryz.prog 18 Tryz.f97.results.toList (Tryz.f97.body.getD .skip) (rlogm_Log_Last.RV R) (kvc Tryz.prog 18 Tryz.f97.results.toList (Tryz.f97.body.getD .skip) (rlogm_Log_Last.RV R) [] 2000) [(0, [])] [(0, .pointer l)] w := by kernel_rfl
theorem rlogm_Log_Last.B0_sound {R : Int → World → Prop}  (l : Option Addr) (w : World) (h : rlogm_Log_Last.B0 l w   R) :
    KW Tryz.prog 97 18 (rlogm_Log_Last.RV R) ([(0, [])].map (toItem (Tryz.f97.body.getD .skip))) [(0, .pointer l)] w := by
  exact block_spec Tryz.func97 Tryz.mixed stops_nil (Eq.mp (rlogm_Log_Last.B0_eq l w   R ) h)
theorem rlogm_Log_Last.sound (l : Option Addr) (w : World) (R : Int → World → Prop) (h : rlogm_Log_Last.B0 l w R) : rlogm_Log_Last.Call l w R := by
  have hc := calls_of_block (args := #[.pointer l]) Tryz.func97 (body := (Tryz.f97.body.getD .skip)) (by kernel_rfl) (by kernel_rfl) (args_slot _) (rlogm_Log_Last.B0_sound l w h)
  exact hc.mono fun e w' he => by
    obtain ⟨v, rfl, hv⟩ := he
    exact rlogm_Log_Last.RV_elim hv
def rlogm_Log_Snap.B0 (l : Option Addr) (w : World)   (R : ByteArray → World → Prop) : Prop :=
  Pn l fun a =>
  LdP a w fun x6 =>
  Pn x6 fun a_1 =>
  LdS (a_1.add 4) w fun x9 =>
  R x9 w
theorem rlogm_Log_Snap.B0_eq (l : Option Addr) (w : World)   (R : ByteArray → World → Prop)  :
    (
  Pn l fun a =>
  LdP a w fun x6 =>
  Pn x6 fun a_1 =>
  LdS (a_1.add 4) w fun x9 =>
  R x9 w) = kstep Tryz.prog 10 Tryz.f98.results.toList (Tryz.f98.body.getD .skip) (rlogm_Log_Snap.RV R) (kvc Tryz.prog 10 Tryz.f98.results.toList (Tryz.f98.body.getD .skip) (rlogm_Log_Snap.RV R) [] 2000) [(0, [])] [(0, .pointer l)] w := by kernel_rfl
theorem rlogm_Log_Snap.B0_sound {R : ByteArray → World → Prop}  (l : Option Addr) (w : World) (h : rlogm_Log_Snap.B0 l w   R) :
    KW Tryz.prog 98 10 (rlogm_Log_Snap.RV R) ([(0, [])].map (toItem (Tryz.f98.body.getD .skip))) [(0, .pointer l)] w := by
  exact block_spec Tryz.func98 Tryz.mixed stops_nil (Eq.mp (rlogm_Log_Snap.B0_eq l w   R ) h)
theorem rlogm_Log_Snap.sound (l : Option Addr) (w : World) (R : ByteArray → World → Prop) (h : rlogm_Log_Snap.B0 l w R) : rlogm_Log_Snap.Call l w R := by
  have hc := calls_of_block (args := #[.pointer l]) Tryz.func98 (body := (Tryz.f98.body.getD .skip)) (by kernel_rfl) (by kernel_rfl) (args_slot _) (rlogm_Log_Snap.B0_sound l w h)
  exact hc.mono fun e w' he => by
    obtain ⟨v, rfl, hv⟩ := he
    exact rlogm_Log_Snap.RV_elim hv
def sync_Sync_At.B0 (s : Option Addr) (i : Int) (w : World)   (R : Int → ByteArray → Int → World → Prop) : Prop :=
  New (.cells #[.int .i64 (0 : Int), .string (ByteArray.mk #[])] 103) w fun b4 w1 =>
  Pn s fun a =>
  LdP a w1 fun x9 =>
  rlog_Log_At.Call x9 i w1 fun r11_0_0 r11_0_1 r11_1 w2 =>
  Sts [.int .i64 r11_0_0, .string r11_0_1] ⟨b4, 0, none⟩ 0 w2 fun w3 =>
  LdI .i64 ⟨b4, 0, none⟩ w3 fun r_0 =>
  LdS ⟨b4, 1, none⟩ w3 fun r_1 =>
  R r_0 r_1 r11_1 w3
theorem sync_Sync_At.B0_eq (s : Option Addr) (i : Int) (w : World)   (R : Int → ByteArray → Int → World → Prop)  :
    (
  New (.cells #[.int .i64 (0 : Int), .string (ByteArray.mk #[])] 103) w fun b4 w1 =>
  Pn s fun a =>
  LdP a w1 fun x9 =>
  rlog_Log_At.Call x9 i w1 fun r11_0_0 r11_0_1 r11_1 w2 =>
  Sts [.int .i64 r11_0_0, .string r11_0_1] ⟨b4, 0, none⟩ 0 w2 fun w3 =>
  LdI .i64 ⟨b4, 0, none⟩ w3 fun r_0 =>
  LdS ⟨b4, 1, none⟩ w3 fun r_1 =>
  R r_0 r_1 r11_1 w3) = kstep Tryz.prog 14 Tryz.f99.results.toList (Tryz.f99.body.getD .skip) (sync_Sync_At.RV R) (kvc Tryz.prog 14 Tryz.f99.results.toList (Tryz.f99.body.getD .skip) (sync_Sync_At.RV R) [] 2000) [(0, [])] [(0, .pointer s), (1, .int .i64 i)] w := by kernel_rfl
theorem sync_Sync_At.B0_sound {R : Int → ByteArray → Int → World → Prop}  (s : Option Addr) (i : Int) (w : World) (h : sync_Sync_At.B0 s i w   R) :
    KW Tryz.prog 99 14 (sync_Sync_At.RV R) ([(0, [])].map (toItem (Tryz.f99.body.getD .skip))) [(0, .pointer s), (1, .int .i64 i)] w := by
  exact block_spec Tryz.func99 Tryz.mixed stops_nil (Eq.mp (sync_Sync_At.B0_eq s i w   R ) h)
theorem sync_Sync_At.sound (s : Option Addr) (i : Int) (w : World) (R : Int → ByteArray → Int → World → Prop) (h : sync_Sync_At.B0 s i w R) : sync_Sync_At.Call s i w R := by
  have hc := calls_of_block (args := #[.pointer s, .int .i64 i]) Tryz.func99 (body := (Tryz.f99.body.getD .skip)) (by kernel_rfl) (by kernel_rfl) (args_slot _) (sync_Sync_At.B0_sound s i w h)
  exact hc.mono fun e w' he => by
    obtain ⟨v, rfl, hv⟩ := he
    exact sync_Sync_At.RV_elim hv
def syncm_Sync_At.B0 (s : Option Addr) (i : Int) (w : World)   (R : Int → ByteArray → Int → World → Prop) : Prop :=
  New (.cells #[.int .i64 (0 : Int), .string (ByteArray.mk #[])] 103) w fun b4 w1 =>
  Pn s fun a =>
  LdP a w1 fun x9 =>
  rlogm_Log_At.Call x9 i w1 fun r11_0_0 r11_0_1 r11_1 w2 =>
  Sts [.int .i64 r11_0_0, .string r11_0_1] ⟨b4, 0, none⟩ 0 w2 fun w3 =>
  LdI .i64 ⟨b4, 0, none⟩ w3 fun r_0 =>
  LdS ⟨b4, 1, none⟩ w3 fun r_1 =>
  R r_0 r_1 r11_1 w3
theorem syncm_Sync_At.B0_eq (s : Option Addr) (i : Int) (w : World)   (R : Int → ByteArray → Int → World → Prop)  :
    (
  New (.cells #[.int .i64 (0 : Int), .string (ByteArray.mk #[])] 103) w fun b4 w1 =>
  Pn s fun a =>
  LdP a w1 fun x9 =>
  rlogm_Log_At.Call x9 i w1 fun r11_0_0 r11_0_1 r11_1 w2 =>
  Sts [.int .i64 r11_0_0, .string r11_0_1] ⟨b4, 0, none⟩ 0 w2 fun w3 =>
  LdI .i64 ⟨b4, 0, none⟩ w3 fun r_0 =>
  LdS ⟨b4, 1, none⟩ w3 fun r_1 =>
  R r_0 r_1 r11_1 w3) = kstep Tryz.prog 14 Tryz.f100.results.toList (Tryz.f100.body.getD .skip) (syncm_Sync_At.RV R) (kvc Tryz.prog 14 Tryz.f100.results.toList (Tryz.f100.body.getD .skip) (syncm_Sync_At.RV R) [] 2000) [(0, [])] [(0, .pointer s), (1, .int .i64 i)] w := by kernel_rfl
theorem syncm_Sync_At.B0_sound {R : Int → ByteArray → Int → World → Prop}  (s : Option Addr) (i : Int) (w : World) (h : syncm_Sync_At.B0 s i w   R) :
    KW Tryz.prog 100 14 (syncm_Sync_At.RV R) ([(0, [])].map (toItem (Tryz.f100.body.getD .skip))) [(0, .pointer s), (1, .int .i64 i)] w := by
  exact block_spec Tryz.func100 Tryz.mixed stops_nil (Eq.mp (syncm_Sync_At.B0_eq s i w   R ) h)
theorem syncm_Sync_At.sound (s : Option Addr) (i : Int) (w : World) (R : Int → ByteArray → Int → World → Prop) (h : syncm_Sync_At.B0 s i w R) : syncm_Sync_At.Call s i w R := by
  have hc := calls_of_block (args := #[.pointer s, .int .i64 i]) Tryz.func100 (body := (Tryz.f100.body.getD .skip)) (by kernel_rfl) (by kernel_rfl) (args_slot _) (syncm_Sync_At.B0_sound s i w h)
  exact hc.mono fun e w' he => by
    obtain ⟨v, rfl, hv⟩ := he
    exact syncm_Sync_At.RV_elim hv
def synclaw_SameEntry.B0 (a_0 : Int) (a_1 : ByteArray) (b_0 : Int) (b_1 : ByteArray) (w : World)   (R : Bool → World → Prop) : Prop :=
  New (.cells #[.int .i64 a_0, .string a_1] 103) w fun a_ w1 =>
  New (.cells #[.int .i64 b_0, .string b_1] 103) w1 fun b_ w2 =>
  LdI .i64 ⟨a_, 0, none⟩ w2 fun x6 =>
  LdI .i64 ⟨b_, 0, none⟩ w2 fun x8 =>
  Bm (x6 == x8) (
    LdS ⟨a_, 1, none⟩ w2 fun x12 =>
    LdS ⟨b_, 1, none⟩ w2 fun x14 =>
    R (x12.toList == x14.toList) w2) (
    R false w2)
theorem synclaw_SameEntry.B0_eq (a_0 : Int) (a_1 : ByteArray) (b_0 : Int) (b_1 : ByteArray) (w : World)   (R : Bool → World → Prop)  :
    (
  New (.cells #[.int .i64 a_0, .string a_1] 103) w fun a_ w1 =>
  New (.cells #[.int .i64 b_0, .string b_1] 103) w1 fun b_ w2 =>
  LdI .i64 ⟨a_, 0, none⟩ w2 fun x6 =>
  LdI .i64 ⟨b_, 0, none⟩ w2 fun x8 =>
  Bm (x6 == x8) (
    LdS ⟨a_, 1, none⟩ w2 fun x12 =>
    LdS ⟨b_, 1, none⟩ w2 fun x14 =>
    R (x12.toList == x14.toList) w2) (
    R false w2)) = kstep Tryz.prog 17 Tryz.f101.results.toList (Tryz.f101.body.getD .skip) (synclaw_SameEntry.RV R) (kvc Tryz.prog 17 Tryz.f101.results.toList (Tryz.f101.body.getD .skip) (synclaw_SameEntry.RV R) [] 2000) [(0, [])] [(0, .agg #[.int .i64 a_0, .string a_1]), (1, .agg #[.int .i64 b_0, .string b_1])] w := by kernel_rfl
theorem synclaw_SameEntry.B0_sound {R : Bool → World → Prop}  (a_0 : Int) (a_1 : ByteArray) (b_0 : Int) (b_1 : ByteArray) (w : World) (h : synclaw_SameEntry.B0 a_0 a_1 b_0 b_1 w   R) :
    KW Tryz.prog 101 17 (synclaw_SameEntry.RV R) ([(0, [])].map (toItem (Tryz.f101.body.getD .skip))) [(0, .agg #[.int .i64 a_0, .string a_1]), (1, .agg #[.int .i64 b_0, .string b_1])] w := by
  exact block_spec Tryz.func101 Tryz.mixed stops_nil (Eq.mp (synclaw_SameEntry.B0_eq a_0 a_1 b_0 b_1 w   R ) h)
theorem synclaw_SameEntry.sound (a_0 : Int) (a_1 : ByteArray) (b_0 : Int) (b_1 : ByteArray) (w : World) (R : Bool → World → Prop) (h : synclaw_SameEntry.B0 a_0 a_1 b_0 b_1 w R) : synclaw_SameEntry.Call a_0 a_1 b_0 b_1 w R := by
  have hc := calls_of_block (args := #[.agg #[.int .i64 a_0, .string a_1], .agg #[.int .i64 b_0, .string b_1]]) Tryz.func101 (body := (Tryz.f101.body.getD .skip)) (by kernel_rfl) (by kernel_rfl) (args_slot _) (synclaw_SameEntry.B0_sound a_0 a_1 b_0 b_1 w h)
  exact hc.mono fun e w' he => by
    obtain ⟨v, rfl, hv⟩ := he
    exact synclaw_SameEntry.RV_elim hv
def sync_Sync_TermAt.B0 (s : Option Addr) (i : Int) (w : World)   (R : Int → Int → World → Prop) : Prop :=
  Pn s fun a =>
  LdP a w fun x9 =>
  rlog_Log_TermAt.Call x9 i w fun r11_0 r11_1 w1 =>
  R r11_0 r11_1 w1
theorem sync_Sync_TermAt.B0_eq (s : Option Addr) (i : Int) (w : World)   (R : Int → Int → World → Prop)  :
    (
  Pn s fun a =>
  LdP a w fun x9 =>
  rlog_Log_TermAt.Call x9 i w fun r11_0 r11_1 w1 =>
  R r11_0 r11_1 w1) = kstep Tryz.prog 14 Tryz.f102.results.toList (Tryz.f102.body.getD .skip) (sync_Sync_TermAt.RV R) (kvc Tryz.prog 14 Tryz.f102.results.toList (Tryz.f102.body.getD .skip) (sync_Sync_TermAt.RV R) [] 2000) [(0, [])] [(0, .pointer s), (1, .int .i64 i)] w := by kernel_rfl
theorem sync_Sync_TermAt.B0_sound {R : Int → Int → World → Prop}  (s : Option Addr) (i : Int) (w : World) (h : sync_Sync_TermAt.B0 s i w   R) :
    KW Tryz.prog 102 14 (sync_Sync_TermAt.RV R) ([(0, [])].map (toItem (Tryz.f102.body.getD .skip))) [(0, .pointer s), (1, .int .i64 i)] w := by
  exact block_spec Tryz.func102 Tryz.mixed stops_nil (Eq.mp (sync_Sync_TermAt.B0_eq s i w   R ) h)
theorem sync_Sync_TermAt.sound (s : Option Addr) (i : Int) (w : World) (R : Int → Int → World → Prop) (h : sync_Sync_TermAt.B0 s i w R) : sync_Sync_TermAt.Call s i w R := by
  have hc := calls_of_block (args := #[.pointer s, .int .i64 i]) Tryz.func102 (body := (Tryz.f102.body.getD .skip)) (by kernel_rfl) (by kernel_rfl) (args_slot _) (sync_Sync_TermAt.B0_sound s i w h)
  exact hc.mono fun e w' he => by
    obtain ⟨v, rfl, hv⟩ := he
    exact sync_Sync_TermAt.RV_elim hv
def syncm_Sync_TermAt.B0 (s : Option Addr) (i : Int) (w : World)   (R : Int → Int → World → Prop) : Prop :=
  Pn s fun a =>
  LdP a w fun x9 =>
  rlogm_Log_TermAt.Call x9 i w fun r11_0 r11_1 w1 =>
  R r11_0 r11_1 w1
theorem syncm_Sync_TermAt.B0_eq (s : Option Addr) (i : Int) (w : World)   (R : Int → Int → World → Prop)  :
    (
  Pn s fun a =>
  LdP a w fun x9 =>
  rlogm_Log_TermAt.Call x9 i w fun r11_0 r11_1 w1 =>
  R r11_0 r11_1 w1) = kstep Tryz.prog 14 Tryz.f103.results.toList (Tryz.f103.body.getD .skip) (syncm_Sync_TermAt.RV R) (kvc Tryz.prog 14 Tryz.f103.results.toList (Tryz.f103.body.getD .skip) (syncm_Sync_TermAt.RV R) [] 2000) [(0, [])] [(0, .pointer s), (1, .int .i64 i)] w := by kernel_rfl
theorem syncm_Sync_TermAt.B0_sound {R : Int → Int → World → Prop}  (s : Option Addr) (i : Int) (w : World) (h : syncm_Sync_TermAt.B0 s i w   R) :
    KW Tryz.prog 103 14 (syncm_Sync_TermAt.RV R) ([(0, [])].map (toItem (Tryz.f103.body.getD .skip))) [(0, .pointer s), (1, .int .i64 i)] w := by
  exact block_spec Tryz.func103 Tryz.mixed stops_nil (Eq.mp (syncm_Sync_TermAt.B0_eq s i w   R ) h)
theorem syncm_Sync_TermAt.sound (s : Option Addr) (i : Int) (w : World) (R : Int → Int → World → Prop) (h : syncm_Sync_TermAt.B0 s i w R) : syncm_Sync_TermAt.Call s i w R := by
  have hc := calls_of_block (args := #[.pointer s, .int .i64 i]) Tryz.func103 (body := (Tryz.f103.body.getD .skip)) (by kernel_rfl) (by kernel_rfl) (args_slot _) (syncm_Sync_TermAt.B0_sound s i w h)
  exact hc.mono fun e w' he => by
    obtain ⟨v, rfl, hv⟩ := he
    exact syncm_Sync_TermAt.RV_elim hv
def elect_Elect_Tick.B0 (e : Option Addr) (w : World)   (R : Int → World → Prop) : Prop :=
  elect_Elect_Role.Call e w fun r5 w1 =>
  elect_turn.Call r5 (0 : Int) w1 fun r7 w2 =>
  Bm (decide (r7 < (0 : Int))) (
    R (2 : Int) w2) (
    Pn e fun a =>
    LdI .i64 (a.add 4) w2 fun x13 =>
    Pn e fun a_1 =>
    Sts [.int .i64 (IntKind.i64.wrap (x13 + (1 : Int)))] (a_1.add 4) 0 w2 fun w3 =>
    Pn e fun a_2 =>
    LdI .i64 (a_2.add 4) w3.drew fun x20 =>
    Pn e fun a_3 =>
    LdI .i64 (a_3.add 5) w3.drew fun x24 =>
    Bm (decide (x20 < x24)) (
      R (0 : Int) w3.drew) (
      elect_Elect_wind.Call e w3.drew fun w4 =>
      Pn e fun a_4 =>
      LdI .i64 (a_4.add 1) w4 fun x31 =>
      Bm (decide (x31 ≥ (72057594037927936 : Int))) (
        R (0 : Int) w4) (
        Pn e fun a_5 =>
        LdI .i64 (a_5.add 1) w4.drew fun x38 =>
        Pn e fun a_6 =>
        LdI .i64 a_6 w4.drew fun x43 =>
        elect_bit.Call x43 w4.drew fun r44 w5 =>
        w5.cell? (a_5.add 1) = some (.int .i64 x38) ∧
        Pn e fun a_7 =>
        Sts [.int .i64 (IntKind.i64.wrap (x38 + (1 : Int)))] (a_7.add 1) 0 w5 fun w6 =>
        Pn e fun a_8 =>
        Sts [.int .i64 r44] (a_8.add 3) 0 w6 fun w7 =>
        Pn e fun a_9 =>
        LdI .i64 a_9 w7 fun x54 =>
        elect_Elect_put.Call e r7 x54 (-1 : Int) w7 fun w8 =>
        R (1 : Int) w8)))
theorem elect_Elect_Tick.B0_eq (e : Option Addr) (w : World)   (R : Int → World → Prop)  :
    (
  elect_Elect_Role.Call e w fun r5 w1 =>
  elect_turn.Call r5 (0 : Int) w1 fun r7 w2 =>
  Bm (decide (r7 < (0 : Int))) (
    R (2 : Int) w2) (
    Pn e fun a =>
    LdI .i64 (a.add 4) w2 fun x13 =>
    Pn e fun a_1 =>
    Sts [.int .i64 (IntKind.i64.wrap (x13 + (1 : Int)))] (a_1.add 4) 0 w2 fun w3 =>
    Pn e fun a_2 =>
    LdI .i64 (a_2.add 4) w3.drew fun x20 =>
    Pn e fun a_3 =>
    LdI .i64 (a_3.add 5) w3.drew fun x24 =>
    Bm (decide (x20 < x24)) (
      R (0 : Int) w3.drew) (
      elect_Elect_wind.Call e w3.drew fun w4 =>
      Pn e fun a_4 =>
      LdI .i64 (a_4.add 1) w4 fun x31 =>
      Bm (decide (x31 ≥ (72057594037927936 : Int))) (
        R (0 : Int) w4) (
        Pn e fun a_5 =>
        LdI .i64 (a_5.add 1) w4.drew fun x38 =>
        Pn e fun a_6 =>
        LdI .i64 a_6 w4.drew fun x43 =>
        elect_bit.Call x43 w4.drew fun r44 w5 =>
        w5.cell? (a_5.add 1) = some (.int .i64 x38) ∧
        Pn e fun a_7 =>
        Sts [.int .i64 (IntKind.i64.wrap (x38 + (1 : Int)))] (a_7.add 1) 0 w5 fun w6 =>
        Pn e fun a_8 =>
        Sts [.int .i64 r44] (a_8.add 3) 0 w6 fun w7 =>
        Pn e fun a_9 =>
        LdI .i64 a_9 w7 fun x54 =>
        elect_Elect_put.Call e r7 x54 (-1 : Int) w7 fun w8 =>
        R (1 : Int) w8)))) = kstep Tryz.prog 56 Tryz.f104.results.toList (Tryz.f104.body.getD .skip) (elect_Elect_Tick.RV R) (kvc Tryz.prog 56 Tryz.f104.results.toList (Tryz.f104.body.getD .skip) (elect_Elect_Tick.RV R) [] 2000) [(0, [])] [(0, .pointer e)] w := by kernel_rfl
theorem elect_Elect_Tick.B0_sound {R : Int → World → Prop}  (e : Option Addr) (w : World) (h : elect_Elect_Tick.B0 e w   R) :
    KW Tryz.prog 104 56 (elect_Elect_Tick.RV R) ([(0, [])].map (toItem (Tryz.f104.body.getD .skip))) [(0, .pointer e)] w := by
  exact block_spec Tryz.func104 Tryz.mixed stops_nil (Eq.mp (elect_Elect_Tick.B0_eq e w   R ) h)
theorem elect_Elect_Tick.sound (e : Option Addr) (w : World) (R : Int → World → Prop) (h : elect_Elect_Tick.B0 e w R) : elect_Elect_Tick.Call e w R := by
  have hc := calls_of_block (args := #[.pointer e]) Tryz.func104 (body := (Tryz.f104.body.getD .skip)) (by kernel_rfl) (by kernel_rfl) (args_slot _) (elect_Elect_Tick.B0_sound e w h)
  exact hc.mono fun e w' he => by
    obtain ⟨v, rfl, hv⟩ := he
    exact elect_Elect_Tick.RV_elim hv
def sync_Sync_persist.B1 (s : Option Addr) (t v : Int) (t33 : Bool) (w : World)   (R : World → Prop) : Prop :=
  Bm t33 (
    Pn s fun a =>
    LdP a w fun x37 =>
    rlog_Log_SetTerm.Call x37 t v w fun r40 w1 =>
    R  w1) (
    R  w)
theorem sync_Sync_persist.B1_eq (s : Option Addr) (t v : Int) (t33 : Bool) (w : World)   (R : World → Prop)  :
    (
  Bm t33 (
    Pn s fun a =>
    LdP a w fun x37 =>
    rlog_Log_SetTerm.Call x37 t v w fun r40 w1 =>
    R  w1) (
    R  w)) = kstep Tryz.prog 41 Tryz.f105.results.toList (Tryz.f105.body.getD .skip) (sync_Sync_persist.RV R) (kvc Tryz.prog 41 Tryz.f105.results.toList (Tryz.f105.body.getD .skip) (sync_Sync_persist.RV R) [] 2000) [(0, [1, 1, 1, 1, 1])] [(0, .pointer s), (2, .int .i64 t), (3, .int .i64 v), (33, .bool t33)] w := by kernel_rfl
theorem sync_Sync_persist.B1_sound {R : World → Prop}  (s : Option Addr) (t v : Int) (t33 : Bool) (w : World) (h : sync_Sync_persist.B1 s t v t33 w   R) :
    KW Tryz.prog 105 41 (sync_Sync_persist.RV R) ([(0, [1, 1, 1, 1, 1])].map (toItem (Tryz.f105.body.getD .skip))) [(0, .pointer s), (2, .int .i64 t), (3, .int .i64 v), (33, .bool t33)] w := by
  exact block_spec Tryz.func105 Tryz.mixed stops_nil (Eq.mp (sync_Sync_persist.B1_eq s t v t33 w   R ) h)
def sync_Sync_persist.B0 (s : Option Addr) (w : World)   (R : World → Prop) : Prop :=
  Pn s fun a =>
  LdP (a.add 1) w fun x9 =>
  elect_Elect_Term.Call x9 w fun r10 w1 =>
  Pn s fun a_1 =>
  LdP (a_1.add 1) w1 fun x14 =>
  elect_Elect_Vote.Call x14 w1 fun r15 w2 =>
  Pn s fun a_2 =>
  LdP a_2 w2 fun x19 =>
  rlog_Log_Term.Call x19 w2 fun r20 w3 =>
  Pn s fun a_3 =>
  LdP a_3 w3 fun x24 =>
  rlog_Log_Vote.Call x24 w3 fun r25 w4 =>
  Bm (r10 != r20) (
    sync_Sync_persist.B1 s r10 r15 true w4  R) (
    sync_Sync_persist.B1 s r10 r15 (r15 != r25) w4  R)
theorem sync_Sync_persist.B0_eq (s : Option Addr) (w : World)   (R : World → Prop) (sB1 : Option Addr → Int → Int → Bool → World → Prop) :
    (
  Pn s fun a =>
  LdP (a.add 1) w fun x9 =>
  elect_Elect_Term.Call x9 w fun r10 w1 =>
  Pn s fun a_1 =>
  LdP (a_1.add 1) w1 fun x14 =>
  elect_Elect_Vote.Call x14 w1 fun r15 w2 =>
  Pn s fun a_2 =>
  LdP a_2 w2 fun x19 =>
  rlog_Log_Term.Call x19 w2 fun r20 w3 =>
  Pn s fun a_3 =>
  LdP a_3 w3 fun x24 =>
  rlog_Log_Vote.Call x24 w3 fun r25 w4 =>
  Bm (r10 != r20) (
    sB1 s r10 r15 true w4) (
    sB1 s r10 r15 (r15 != r25) w4)) = kstep Tryz.prog 41 Tryz.f105.results.toList (Tryz.f105.body.getD .skip) (sync_Sync_persist.RV R) (kvc Tryz.prog 41 Tryz.f105.results.toList (Tryz.f105.body.getD .skip) (sync_Sync_persist.RV R) [([(0, [1, 1, 1, 1, 1])], fun σ w => dP (slotOf σ 0) fun s_ => dI .i64 (slotOf σ 2) fun t_ => dI .i64 (slotOf σ 3) fun v_ => dB (slotOf σ 33) fun t33_ => sB1 s_ t_ v_ t33_ w)] 2000) [(0, [])] [(0, .pointer s)] w := by kernel_rfl
theorem sync_Sync_persist.B0_sound {R : World → Prop}  (s : Option Addr) (w : World) (h : sync_Sync_persist.B0 s w   R) :
    KW Tryz.prog 105 41 (sync_Sync_persist.RV R) ([(0, [])].map (toItem (Tryz.f105.body.getD .skip))) [(0, .pointer s)] w := by
  exact block_spec Tryz.func105 Tryz.mixed (stops_cons (fun σ w h => by
      obtain ⟨s_, e0, h⟩ := dP_elim h
      obtain ⟨t_, e1, h⟩ := dI_elim h
      obtain ⟨v_, e2, h⟩ := dI_elim h
      obtain ⟨t33_, e3, h⟩ := dB_elim h
      exact (sync_Sync_persist.B1_sound  s_ t_ v_ t33_ w h).weaken (Sub.cons (Sub.cons (Sub.cons (Sub.cons (Sub.nil _) e3) e2) e1) e0)) stops_nil) (Eq.mp (sync_Sync_persist.B0_eq s w   R (fun s_ t_ v_ t33_ w => sync_Sync_persist.B1 s_ t_ v_ t33_ w  R)) h)
theorem sync_Sync_persist.sound (s : Option Addr) (w : World) (R : World → Prop) (h : sync_Sync_persist.B0 s w R) : sync_Sync_persist.Call s w R := by
  have hc := calls_of_block (args := #[.pointer s]) Tryz.func105 (body := (Tryz.f105.body.getD .skip)) (by kernel_rfl) (by kernel_rfl) (args_slot _) (sync_Sync_persist.B0_sound s w h)
  exact hc.mono fun e w' he => by
    obtain ⟨v, rfl, hv⟩ := he
    exact sync_Sync_persist.RV_elim hv
def sync_Sync_sendAll.B1 (s : Option Addr) (id0 p : Int) (w : World) (N1 : Option Addr → Int → Int → World → Prop)  (R : World → Prop) : Prop :=
  N1 s id0 (IntKind.i64.wrap (p + (1 : Int))) w
theorem sync_Sync_sendAll.B1_eq (s : Option Addr) (id0 p : Int) (w : World) (N1 : Option Addr → Int → Int → World → Prop)  (R : World → Prop)  :
    (
  N1 s id0 (IntKind.i64.wrap (p + (1 : Int))) w) = kstep Tryz.prog 19 Tryz.f106.results.toList (Tryz.f106.body.getD .skip) (sync_Sync_sendAll.RV R) (kvc Tryz.prog 19 Tryz.f106.results.toList (Tryz.f106.body.getD .skip) (sync_Sync_sendAll.RV R) [([(0, [1, 1, 0, 0]), (2, [1, 1, 0, 0]), (1, [0])], fun σ w => dP (slotOf σ 0) fun s_ => dI .i64 (slotOf σ 2) fun id0_ => dI .i64 (slotOf σ 3) fun p_ => N1 s_ id0_ p_ w)] 2000) [(0, [1, 1, 0, 0, 1, 1]), (2, [1, 1, 0, 0]), (1, [0])] [(0, .pointer s), (2, .int .i64 id0), (3, .int .i64 p)] w := by kernel_rfl
theorem sync_Sync_sendAll.B1_sound {R : World → Prop} {N1 : Option Addr → Int → Int → World → Prop} (hN1 : ∀ s id0 p w, N1 s id0 p w → KW Tryz.prog 106 19 (sync_Sync_sendAll.RV R) ([(0, [1, 1, 0, 0]), (2, [1, 1, 0, 0]), (1, [0])].map (toItem (Tryz.f106.body.getD .skip))) [(0, .pointer s), (2, .int .i64 id0), (3, .int .i64 p)] w) (s : Option Addr) (id0 p : Int) (w : World) (h : sync_Sync_sendAll.B1 s id0 p w N1  R) :
    KW Tryz.prog 106 19 (sync_Sync_sendAll.RV R) ([(0, [1, 1, 0, 0, 1, 1]), (2, [1, 1, 0, 0]), (1, [0])].map (toItem (Tryz.f106.body.getD .skip))) [(0, .pointer s), (2, .int .i64 id0), (3, .int .i64 p)] w := by
  exact block_spec Tryz.func106 Tryz.mixed (stops_cons (fun σ w h => by
      obtain ⟨s_, e0, h⟩ := dP_elim h
      obtain ⟨id0_, e1, h⟩ := dI_elim h
      obtain ⟨p_, e2, h⟩ := dI_elim h
      exact (hN1 s_ id0_ p_ w h).weaken (Sub.cons (Sub.cons (Sub.cons (Sub.nil _) e2) e1) e0)) stops_nil) (Eq.mp (sync_Sync_sendAll.B1_eq s id0 p w N1  R ) h)
def sync_Sync_sendAll.L1b (s : Option Addr) (id0 p : Int) (w : World)  (N1 : Option Addr → Int → Int → World → Prop) (R : World → Prop) : Prop :=
  Bm (decide (p < (3 : Int))) (
    Bm (p != id0) (
      sync_Sync_send.Call s p w fun w1 =>
      sync_Sync_sendAll.B1 s id0 p w1 N1 R) (
      sync_Sync_sendAll.B1 s id0 p w N1 R)) (
    R  w)
theorem sync_Sync_sendAll.L1b_eq (s : Option Addr) (id0 p : Int) (w : World)  (N1 : Option Addr → Int → Int → World → Prop) (R : World → Prop) (sB1 : Option Addr → Int → Int → World → Prop) :
    (
  Bm (decide (p < (3 : Int))) (
    Bm (p != id0) (
      sync_Sync_send.Call s p w fun w1 =>
      sB1 s id0 p w1) (
      sB1 s id0 p w)) (
    R  w)) = kstep Tryz.prog 19 Tryz.f106.results.toList (Tryz.f106.body.getD .skip) (sync_Sync_sendAll.RV R) (kvc Tryz.prog 19 Tryz.f106.results.toList (Tryz.f106.body.getD .skip) (sync_Sync_sendAll.RV R) [([(0, [1, 1, 0, 0, 1, 1]), (2, [1, 1, 0, 0]), (1, [0])], fun σ w => dP (slotOf σ 0) fun s_ => dI .i64 (slotOf σ 2) fun id0_ => dI .i64 (slotOf σ 3) fun p_ => sB1 s_ id0_ p_ w)] 2000) [(0, [1, 1, 0, 0]), (2, [1, 1, 0, 0]), (1, [0])] [(0, .pointer s), (2, .int .i64 id0), (3, .int .i64 p)] w := by kernel_rfl
theorem sync_Sync_sendAll.L1b_sound {R : World → Prop} {N1 : Option Addr → Int → Int → World → Prop} (hN1 : ∀ s id0 p w, N1 s id0 p w → KW Tryz.prog 106 19 (sync_Sync_sendAll.RV R) ([(0, [1, 1, 0, 0]), (2, [1, 1, 0, 0]), (1, [0])].map (toItem (Tryz.f106.body.getD .skip))) [(0, .pointer s), (2, .int .i64 id0), (3, .int .i64 p)] w) (s : Option Addr) (id0 p : Int) (w : World) (h : sync_Sync_sendAll.L1b s id0 p w  N1 R) :
    KW Tryz.prog 106 19 (sync_Sync_sendAll.RV R) ([(0, [1, 1, 0, 0]), (2, [1, 1, 0, 0]), (1, [0])].map (toItem (Tryz.f106.body.getD .skip))) [(0, .pointer s), (2, .int .i64 id0), (3, .int .i64 p)] w := by
  exact block_spec Tryz.func106 Tryz.mixed (stops_cons (fun σ w h => by
      obtain ⟨s_, e0, h⟩ := dP_elim h
      obtain ⟨id0_, e1, h⟩ := dI_elim h
      obtain ⟨p_, e2, h⟩ := dI_elim h
      exact (sync_Sync_sendAll.B1_sound hN1 s_ id0_ p_ w h).weaken (Sub.cons (Sub.cons (Sub.cons (Sub.nil _) e2) e1) e0)) stops_nil) (Eq.mp (sync_Sync_sendAll.L1b_eq s id0 p w  N1 R (fun s_ id0_ p_ w => sync_Sync_sendAll.B1 s_ id0_ p_ w N1 R)) h)
def sync_Sync_sendAll.L1 (s : Option Addr) (id0 p : Int) (w : World)  (R : World → Prop) : Prop :=
  ∃ (I : Nat → Option Addr → Int → Int → World → Prop) (m : Nat), I m s id0 p w ∧ ∀ m s id0 p w, I m s id0 p w → sync_Sync_sendAll.L1b s id0 p w  (fun s' id0' p' w' => ∃ m', m' < m ∧ I m' s' id0' p' w') R
theorem sync_Sync_sendAll.L1_sound {R : World → Prop}  (s : Option Addr) (id0 p : Int) (w : World) (h : sync_Sync_sendAll.L1 s id0 p w  R) :
    KW Tryz.prog 106 19 (sync_Sync_sendAll.RV R) ([(0, [1, 1, 0, 0]), (2, [1, 1, 0, 0]), (1, [0])].map (toItem (Tryz.f106.body.getD .skip))) [(0, .pointer s), (2, .int .i64 id0), (3, .int .i64 p)] w := by
  obtain ⟨I, m, hBase, hr⟩ := h
  refine KW.loop (fun m σ w => ∃ (s : Option Addr) (id0 p : Int), σ = [(0, .pointer s), (2, .int .i64 id0), (3, .int .i64 p)] ∧ I m s id0 p w) ?_ m _ w ⟨s, id0, p, rfl, hBase⟩
  rintro m ih σ w ⟨s, id0, p, rfl, hI⟩
  exact sync_Sync_sendAll.L1b_sound  (N1 := fun s' id0' p' w' => ∃ m', m' < m ∧ I m' s' id0' p' w') (fun s' id0' p' w' hx => by obtain ⟨m', hlt, hI'⟩ := hx; exact ih m' hlt _ w' ⟨s', id0', p', rfl, hI'⟩) s id0 p w (hr m s id0 p w hI)
def sync_Sync_sendAll.B0 (s : Option Addr) (w : World)   (R : World → Prop) : Prop :=
  Pn s fun a =>
  LdP (a.add 1) w fun x7 =>
  elect_Elect_Id.Call x7 w fun r8 w1 =>
  sync_Sync_sendAll.L1 s r8 (0 : Int) w1  R
theorem sync_Sync_sendAll.B0_eq (s : Option Addr) (w : World)   (R : World → Prop) (sL1 : Option Addr → Int → Int → World → Prop) :
    (
  Pn s fun a =>
  LdP (a.add 1) w fun x7 =>
  elect_Elect_Id.Call x7 w fun r8 w1 =>
  sL1 s r8 (0 : Int) w1) = kstep Tryz.prog 19 Tryz.f106.results.toList (Tryz.f106.body.getD .skip) (sync_Sync_sendAll.RV R) (kvc Tryz.prog 19 Tryz.f106.results.toList (Tryz.f106.body.getD .skip) (sync_Sync_sendAll.RV R) [([(0, [1, 1, 0, 0]), (2, [1, 1, 0, 0]), (1, [0])], fun σ w => dP (slotOf σ 0) fun s_ => dI .i64 (slotOf σ 2) fun id0_ => dI .i64 (slotOf σ 3) fun p_ => sL1 s_ id0_ p_ w)] 2000) [(0, [])] [(0, .pointer s)] w := by kernel_rfl
theorem sync_Sync_sendAll.B0_sound {R : World → Prop}  (s : Option Addr) (w : World) (h : sync_Sync_sendAll.B0 s w   R) :
    KW Tryz.prog 106 19 (sync_Sync_sendAll.RV R) ([(0, [])].map (toItem (Tryz.f106.body.getD .skip))) [(0, .pointer s)] w := by
  exact block_spec Tryz.func106 Tryz.mixed (stops_cons (fun σ w h => by
      obtain ⟨s_, e0, h⟩ := dP_elim h
      obtain ⟨id0_, e1, h⟩ := dI_elim h
      obtain ⟨p_, e2, h⟩ := dI_elim h
      exact (sync_Sync_sendAll.L1_sound  s_ id0_ p_ w h).weaken (Sub.cons (Sub.cons (Sub.cons (Sub.nil _) e2) e1) e0)) stops_nil) (Eq.mp (sync_Sync_sendAll.B0_eq s w   R (fun s_ id0_ p_ w => sync_Sync_sendAll.L1 s_ id0_ p_ w  R)) h)
theorem sync_Sync_sendAll.sound (s : Option Addr) (w : World) (R : World → Prop) (h : sync_Sync_sendAll.B0 s w R) : sync_Sync_sendAll.Call s w R := by
  have hc := calls_of_block (args := #[.pointer s]) Tryz.func106 (body := (Tryz.f106.body.getD .skip)) (by kernel_rfl) (by kernel_rfl) (args_slot _) (sync_Sync_sendAll.B0_sound s w h)
  exact hc.mono fun e w' he => by
    obtain ⟨v, rfl, hv⟩ := he
    exact sync_Sync_sendAll.RV_elim hv
def sync_Sync_post.B0 (s : Option Addr) (m0_0 m0_1 m0_2 m0_3 m0_4 m0_5 m0_6 : Int) (m0_7 : Bool) (m0_8_b : Option Addr) (m0_8_l m0_8_c : Nat) (m0_9 : ByteArray) (w : World)   (R : World → Prop) : Prop :=
  New (.cells #[.int .i64 m0_0, .int .i64 m0_1, .int .i64 m0_2, .int .i64 m0_3, .int .i64 m0_4, .int .i64 m0_5, .int .i64 m0_6, .bool m0_7, .slice m0_8_b m0_8_l m0_8_c, .string m0_9] 40) w fun m0_ w1 =>
  Pn s fun a =>
  LdI .i64 (a.add 41) w1 fun x7 =>
  Bm (decide (x7 < (3 : Int))) (
    Pn s fun a_1 =>
    LdI .i64 (a_1.add 41) w1.drew fun x13 =>
    LdI .i64 ⟨m0_, 0, none⟩ w1.drew fun x14_0 =>
    LdI .i64 ⟨m0_, 1, none⟩ w1.drew fun x14_1 =>
    LdI .i64 ⟨m0_, 2, none⟩ w1.drew fun x14_2 =>
    LdI .i64 ⟨m0_, 3, none⟩ w1.drew fun x14_3 =>
    LdI .i64 ⟨m0_, 4, none⟩ w1.drew fun x14_4 =>
    LdI .i64 ⟨m0_, 5, none⟩ w1.drew fun x14_5 =>
    LdI .i64 ⟨m0_, 6, none⟩ w1.drew fun x14_6 =>
    LdB ⟨m0_, 7, none⟩ w1.drew fun x14_7 =>
    LdL ⟨m0_, 8, none⟩ w1.drew fun x14_8_b x14_8_l x14_8_c =>
    LdS ⟨m0_, 9, none⟩ w1.drew fun x14_9 =>
    Pn s fun a_2 =>
    (0 ≤ x13 ∧ x13 < ((3 : Nat) : Int)) ∧
    Sts [.int .i64 x14_0, .int .i64 x14_1, .int .i64 x14_2, .int .i64 x14_3, .int .i64 x14_4, .int .i64 x14_5, .int .i64 x14_6, .bool x14_7, .slice x14_8_b x14_8_l x14_8_c, .string x14_9] (Addr.add (a_2.add 11) (x13.toNat * 10)) 0 w1.drew fun w2 =>
    Pn s fun a_3 =>
    LdI .i64 (a_3.add 41) w2 fun x21 =>
    Pn s fun a_4 =>
    Sts [.int .i64 (IntKind.i64.wrap (x21 + (1 : Int)))] (a_4.add 41) 0 w2 fun w3 =>
    R  w3) (
    R  w1)
theorem sync_Sync_post.B0_eq (s : Option Addr) (m0_0 m0_1 m0_2 m0_3 m0_4 m0_5 m0_6 : Int) (m0_7 : Bool) (m0_8_b : Option Addr) (m0_8_l m0_8_c : Nat) (m0_9 : ByteArray) (w : World)   (R : World → Prop)  :
    (
  New (.cells #[.int .i64 m0_0, .int .i64 m0_1, .int .i64 m0_2, .int .i64 m0_3, .int .i64 m0_4, .int .i64 m0_5, .int .i64 m0_6, .bool m0_7, .slice m0_8_b m0_8_l m0_8_c, .string m0_9] 40) w fun m0_ w1 =>
  Pn s fun a =>
  LdI .i64 (a.add 41) w1 fun x7 =>
  Bm (decide (x7 < (3 : Int))) (
    Pn s fun a_1 =>
    LdI .i64 (a_1.add 41) w1.drew fun x13 =>
    LdI .i64 ⟨m0_, 0, none⟩ w1.drew fun x14_0 =>
    LdI .i64 ⟨m0_, 1, none⟩ w1.drew fun x14_1 =>
    LdI .i64 ⟨m0_, 2, none⟩ w1.drew fun x14_2 =>
    LdI .i64 ⟨m0_, 3, none⟩ w1.drew fun x14_3 =>
    LdI .i64 ⟨m0_, 4, none⟩ w1.drew fun x14_4 =>
    LdI .i64 ⟨m0_, 5, none⟩ w1.drew fun x14_5 =>
    LdI .i64 ⟨m0_, 6, none⟩ w1.drew fun x14_6 =>
    LdB ⟨m0_, 7, none⟩ w1.drew fun x14_7 =>
    LdL ⟨m0_, 8, none⟩ w1.drew fun x14_8_b x14_8_l x14_8_c =>
    LdS ⟨m0_, 9, none⟩ w1.drew fun x14_9 =>
    Pn s fun a_2 =>
    (0 ≤ x13 ∧ x13 < ((3 : Nat) : Int)) ∧
    Sts [.int .i64 x14_0, .int .i64 x14_1, .int .i64 x14_2, .int .i64 x14_3, .int .i64 x14_4, .int .i64 x14_5, .int .i64 x14_6, .bool x14_7, .slice x14_8_b x14_8_l x14_8_c, .string x14_9] (Addr.add (a_2.add 11) (x13.toNat * 10)) 0 w1.drew fun w2 =>
    Pn s fun a_3 =>
    LdI .i64 (a_3.add 41) w2 fun x21 =>
    Pn s fun a_4 =>
    Sts [.int .i64 (IntKind.i64.wrap (x21 + (1 : Int)))] (a_4.add 41) 0 w2 fun w3 =>
    R  w3) (
    R  w1)) = kstep Tryz.prog 25 Tryz.f107.results.toList (Tryz.f107.body.getD .skip) (sync_Sync_post.RV R) (kvc Tryz.prog 25 Tryz.f107.results.toList (Tryz.f107.body.getD .skip) (sync_Sync_post.RV R) [] 2000) [(0, [])] [(0, .pointer s), (1, .agg #[.int .i64 m0_0, .int .i64 m0_1, .int .i64 m0_2, .int .i64 m0_3, .int .i64 m0_4, .int .i64 m0_5, .int .i64 m0_6, .bool m0_7, .slice m0_8_b m0_8_l m0_8_c, .string m0_9])] w := by kernel_rfl
theorem sync_Sync_post.B0_sound {R : World → Prop}  (s : Option Addr) (m0_0 m0_1 m0_2 m0_3 m0_4 m0_5 m0_6 : Int) (m0_7 : Bool) (m0_8_b : Option Addr) (m0_8_l m0_8_c : Nat) (m0_9 : ByteArray) (w : World) (h : sync_Sync_post.B0 s m0_0 m0_1 m0_2 m0_3 m0_4 m0_5 m0_6 m0_7 m0_8_b m0_8_l m0_8_c m0_9 w   R) :
    KW Tryz.prog 107 25 (sync_Sync_post.RV R) ([(0, [])].map (toItem (Tryz.f107.body.getD .skip))) [(0, .pointer s), (1, .agg #[.int .i64 m0_0, .int .i64 m0_1, .int .i64 m0_2, .int .i64 m0_3, .int .i64 m0_4, .int .i64 m0_5, .int .i64 m0_6, .bool m0_7, .slice m0_8_b m0_8_l m0_8_c, .string m0_9])] w := by
  exact block_spec Tryz.func107 Tryz.mixed stops_nil (Eq.mp (sync_Sync_post.B0_eq s m0_0 m0_1 m0_2 m0_3 m0_4 m0_5 m0_6 m0_7 m0_8_b m0_8_l m0_8_c m0_9 w   R ) h)
theorem sync_Sync_post.sound (s : Option Addr) (m0_0 m0_1 m0_2 m0_3 m0_4 m0_5 m0_6 : Int) (m0_7 : Bool) (m0_8_b : Option Addr) (m0_8_l m0_8_c : Nat) (m0_9 : ByteArray) (w : World) (R : World → Prop) (h : sync_Sync_post.B0 s m0_0 m0_1 m0_2 m0_3 m0_4 m0_5 m0_6 m0_7 m0_8_b m0_8_l m0_8_c m0_9 w R) : sync_Sync_post.Call s m0_0 m0_1 m0_2 m0_3 m0_4 m0_5 m0_6 m0_7 m0_8_b m0_8_l m0_8_c m0_9 w R := by
  have hc := calls_of_block (args := #[.pointer s, .agg #[.int .i64 m0_0, .int .i64 m0_1, .int .i64 m0_2, .int .i64 m0_3, .int .i64 m0_4, .int .i64 m0_5, .int .i64 m0_6, .bool m0_7, .slice m0_8_b m0_8_l m0_8_c, .string m0_9]]) Tryz.func107 (body := (Tryz.f107.body.getD .skip)) (by kernel_rfl) (by kernel_rfl) (args_slot _) (sync_Sync_post.B0_sound s m0_0 m0_1 m0_2 m0_3 m0_4 m0_5 m0_6 m0_7 m0_8_b m0_8_l m0_8_c m0_9 w h)
  exact hc.mono fun e w' he => by
    obtain ⟨v, rfl, hv⟩ := he
    exact sync_Sync_post.RV_elim hv
end Go.Proofs.Qxb6500433aGreat
