import Derived.Test.Qxb6500424aGreatSig
set_option maxRecDepth 100000
set_option linter.unusedVariables false
open Go.Vc
namespace Go.Proofs.Qxb6500424aGreat
def hostlaw_RefinesQuietUpTo.B0 (script_b : Option Addr) (script_l script_c : Nat) (w : World)   (R : Int → World → Prop) : Prop :=
  hostlaw_walk.Call script_b script_l script_c false true w fun r7_0 r7_1 w1 =>
  R r7_0 w1
theorem hostlaw_RefinesQuietUpTo.B0_eq (script_b : Option Addr) (script_l script_c : Nat) (w : World)   (R : Int → World → Prop)  :
    (
  hostlaw_walk.Call script_b script_l script_c false true w fun r7_0 r7_1 w1 =>
  R r7_0 w1) = kstep Tryz.prog 11 Tryz.f12.results.toList (Tryz.f12.body.getD .skip) (hostlaw_RefinesQuietUpTo.RV R) (kvc Tryz.prog 11 Tryz.f12.results.toList (Tryz.f12.body.getD .skip) (hostlaw_RefinesQuietUpTo.RV R) [] 2000) [(0, [])] [(0, .slice script_b script_l script_c)] w := by kernel_rfl
theorem hostlaw_RefinesQuietUpTo.B0_sound {R : Int → World → Prop}  (script_b : Option Addr) (script_l script_c : Nat) (w : World) (h : hostlaw_RefinesQuietUpTo.B0 script_b script_l script_c w   R) :
    KW Tryz.prog 12 11 (hostlaw_RefinesQuietUpTo.RV R) ([(0, [])].map (toItem (Tryz.f12.body.getD .skip))) [(0, .slice script_b script_l script_c)] w := by
  exact block_spec Tryz.func12 Tryz.mixed stops_nil (Eq.mp (hostlaw_RefinesQuietUpTo.B0_eq script_b script_l script_c w   R ) h)
theorem hostlaw_RefinesQuietUpTo.sound (script_b : Option Addr) (script_l script_c : Nat) (w : World) (R : Int → World → Prop) (h : hostlaw_RefinesQuietUpTo.B0 script_b script_l script_c w R) : hostlaw_RefinesQuietUpTo.Call script_b script_l script_c w R := by
  have hc := calls_of_block (args := #[.slice script_b script_l script_c]) Tryz.func12 (body := (Tryz.f12.body.getD .skip)) (by kernel_rfl) (by kernel_rfl) (args_slot _) (hostlaw_RefinesQuietUpTo.B0_sound script_b script_l script_c w h)
  exact hc.mono fun e w' he => by
    obtain ⟨v, rfl, hv⟩ := he
    exact hostlaw_RefinesQuietUpTo.RV_elim hv
def hostlaw_NewWorld.B1 (quiet : Bool) (w0 : Nat) (i : Int) (w : World) (N1 : Bool → Nat → Int → World → Prop)  (R : Option Addr → World → Prop) : Prop :=
  N1 quiet w0 (IntKind.i64.wrap (i + (1 : Int))) w
theorem hostlaw_NewWorld.B1_eq (quiet : Bool) (w0 : Nat) (i : Int) (w : World) (N1 : Bool → Nat → Int → World → Prop)  (R : Option Addr → World → Prop)  :
    (
  N1 quiet w0 (IntKind.i64.wrap (i + (1 : Int))) w) = kstep Tryz.prog 72 Tryz.f13.results.toList (Tryz.f13.body.getD .skip) (hostlaw_NewWorld.RV R) (kvc Tryz.prog 72 Tryz.f13.results.toList (Tryz.f13.body.getD .skip) (hostlaw_NewWorld.RV R) [([(0, [1, 1, 1, 1, 0, 1, 0, 0]), (2, [1, 1, 1, 1, 0, 1, 0, 0]), (1, [0]), (0, [1, 1, 1, 1, 1])], fun σ w => dB (slotOf σ 0) fun quiet_ => dK (slotOf σ 5) fun w0_ => dI .i64 (slotOf σ 6) fun i_ => N1 quiet_ w0_ i_ w)] 2000) [(0, [1, 1, 1, 1, 0, 1, 0, 0, 1, 1]), (2, [1, 1, 1, 1, 0, 1, 0, 0]), (1, [0]), (0, [1, 1, 1, 1, 1])] [(0, .bool quiet), (5, .pointer (some ⟨w0, 0, none⟩)), (6, .int .i64 i)] w := by kernel_rfl
theorem hostlaw_NewWorld.B1_sound {R : Option Addr → World → Prop} {N1 : Bool → Nat → Int → World → Prop} (hN1 : ∀ quiet w0 i w, N1 quiet w0 i w → KW Tryz.prog 13 72 (hostlaw_NewWorld.RV R) ([(0, [1, 1, 1, 1, 0, 1, 0, 0]), (2, [1, 1, 1, 1, 0, 1, 0, 0]), (1, [0]), (0, [1, 1, 1, 1, 1])].map (toItem (Tryz.f13.body.getD .skip))) [(0, .bool quiet), (5, .pointer (some ⟨w0, 0, none⟩)), (6, .int .i64 i)] w) (quiet : Bool) (w0 : Nat) (i : Int) (w : World) (h : hostlaw_NewWorld.B1 quiet w0 i w N1  R) :
    KW Tryz.prog 13 72 (hostlaw_NewWorld.RV R) ([(0, [1, 1, 1, 1, 0, 1, 0, 0, 1, 1]), (2, [1, 1, 1, 1, 0, 1, 0, 0]), (1, [0]), (0, [1, 1, 1, 1, 1])].map (toItem (Tryz.f13.body.getD .skip))) [(0, .bool quiet), (5, .pointer (some ⟨w0, 0, none⟩)), (6, .int .i64 i)] w := by
  exact block_spec Tryz.func13 Tryz.mixed (stops_cons (fun σ w h => by
      obtain ⟨quiet_, e0, h⟩ := dB_elim h
      obtain ⟨w0_, e1, h⟩ := dK_elim h
      obtain ⟨i_, e2, h⟩ := dI_elim h
      exact (hN1 quiet_ w0_ i_ w h).weaken (Sub.cons (Sub.cons (Sub.cons (Sub.nil _) e2) e1) e0)) stops_nil) (Eq.mp (hostlaw_NewWorld.B1_eq quiet w0 i w N1  R ) h)
def hostlaw_NewWorld.L1b (quiet : Bool) (w0 : Nat) (i : Int) (w : World)  (N1 : Bool → Nat → Int → World → Prop) (R : Option Addr → World → Prop) : Prop :=
  Bm (decide (i < (3 : Int))) (
    hostlaw_Ground.Call (IntKind.i64.wrap (i + (1 : Int))) w.drew fun r22_0 r22_1 r22_2 r22_3 r22_4 r22_5 r22_6 w1 =>
    (0 ≤ i ∧ i < ((3 : Nat) : Int)) ∧
    Sts [.pointer r22_0, .pointer r22_1, .pointer r22_2, .pointer r22_3, .pointer r22_4, .pointer r22_5, .pointer r22_6] (Addr.add ⟨w0, 3, none⟩ (i.toNat * 7)) 0 w1 fun w2 =>
    (0 ≤ i ∧ i < ((3 : Nat) : Int)) ∧
    LdP (Addr.add ⟨w0, 3, none⟩ (i.toNat * 7)) w2.drew fun x36 =>
    (0 ≤ i ∧ i < ((3 : Nat) : Int)) ∧
    LdP ((Addr.add ⟨w0, 3, none⟩ (i.toNat * 7)).add 1) w2.drew fun x43 =>
    (0 ≤ i ∧ i < ((3 : Nat) : Int)) ∧
    LdP ((Addr.add ⟨w0, 3, none⟩ (i.toNat * 7)).add 2) w2.drew fun x50_0 =>
    LdP (((Addr.add ⟨w0, 3, none⟩ (i.toNat * 7)).add 2).add 1) w2.drew fun x50_1 =>
    LdP (((Addr.add ⟨w0, 3, none⟩ (i.toNat * 7)).add 2).add 2) w2.drew fun x50_2 =>
    LdP (((Addr.add ⟨w0, 3, none⟩ (i.toNat * 7)).add 2).add 3) w2.drew fun x50_3 =>
    (0 ≤ i ∧ i < ((3 : Nat) : Int)) ∧
    LdP ((Addr.add ⟨w0, 3, none⟩ (i.toNat * 7)).add 6) w2.drew fun x57 =>
    host_New.Call (IntKind.i64.wrap (i + (1 : Int))) x36 x43 x50_0 x50_1 x50_2 x50_3 x57 w2.drew fun r58 w3 =>
    (0 ≤ i ∧ i < ((3 : Nat) : Int)) ∧
    Sts [.pointer r58] (Addr.add ⟨w0, 0, none⟩ (i.toNat * 1)) 0 w3 fun w4 =>
    Bm quiet (
      hostlaw_Build.Call (IntKind.i64.wrap (i + (1 : Int))) w4.drew fun r67 w5 =>
      (0 ≤ i ∧ i < ((3 : Nat) : Int)) ∧
      Sts [.pointer r67] (Addr.add ⟨w0, 24, none⟩ (i.toNat * 1)) 0 w5 fun w6 =>
      hostlaw_NewWorld.B1 quiet w0 i w6 N1 R) (
      hostlaw_NewWorld.B1 quiet w0 i w4 N1 R)) (
    R (some ⟨w0, 0, none⟩) w)
theorem hostlaw_NewWorld.L1b_eq (quiet : Bool) (w0 : Nat) (i : Int) (w : World)  (N1 : Bool → Nat → Int → World → Prop) (R : Option Addr → World → Prop) (sB1 : Bool → Nat → Int → World → Prop) :
    (
  Bm (decide (i < (3 : Int))) (
    hostlaw_Ground.Call (IntKind.i64.wrap (i + (1 : Int))) w.drew fun r22_0 r22_1 r22_2 r22_3 r22_4 r22_5 r22_6 w1 =>
    (0 ≤ i ∧ i < ((3 : Nat) : Int)) ∧
    Sts [.pointer r22_0, .pointer r22_1, .pointer r22_2, .pointer r22_3, .pointer r22_4, .pointer r22_5, .pointer r22_6] (Addr.add ⟨w0, 3, none⟩ (i.toNat * 7)) 0 w1 fun w2 =>
    (0 ≤ i ∧ i < ((3 : Nat) : Int)) ∧
    LdP (Addr.add ⟨w0, 3, none⟩ (i.toNat * 7)) w2.drew fun x36 =>
    (0 ≤ i ∧ i < ((3 : Nat) : Int)) ∧
    LdP ((Addr.add ⟨w0, 3, none⟩ (i.toNat * 7)).add 1) w2.drew fun x43 =>
    (0 ≤ i ∧ i < ((3 : Nat) : Int)) ∧
    LdP ((Addr.add ⟨w0, 3, none⟩ (i.toNat * 7)).add 2) w2.drew fun x50_0 =>
    LdP (((Addr.add ⟨w0, 3, none⟩ (i.toNat * 7)).add 2).add 1) w2.drew fun x50_1 =>
    LdP (((Addr.add ⟨w0, 3, none⟩ (i.toNat * 7)).add 2).add 2) w2.drew fun x50_2 =>
    LdP (((Addr.add ⟨w0, 3, none⟩ (i.toNat * 7)).add 2).add 3) w2.drew fun x50_3 =>
    (0 ≤ i ∧ i < ((3 : Nat) : Int)) ∧
    LdP ((Addr.add ⟨w0, 3, none⟩ (i.toNat * 7)).add 6) w2.drew fun x57 =>
    host_New.Call (IntKind.i64.wrap (i + (1 : Int))) x36 x43 x50_0 x50_1 x50_2 x50_3 x57 w2.drew fun r58 w3 =>
    (0 ≤ i ∧ i < ((3 : Nat) : Int)) ∧
    Sts [.pointer r58] (Addr.add ⟨w0, 0, none⟩ (i.toNat * 1)) 0 w3 fun w4 =>
    Bm quiet (
      hostlaw_Build.Call (IntKind.i64.wrap (i + (1 : Int))) w4.drew fun r67 w5 =>
      (0 ≤ i ∧ i < ((3 : Nat) : Int)) ∧
      Sts [.pointer r67] (Addr.add ⟨w0, 24, none⟩ (i.toNat * 1)) 0 w5 fun w6 =>
      sB1 quiet w0 i w6) (
      sB1 quiet w0 i w4)) (
    R (some ⟨w0, 0, none⟩) w)) = kstep Tryz.prog 72 Tryz.f13.results.toList (Tryz.f13.body.getD .skip) (hostlaw_NewWorld.RV R) (kvc Tryz.prog 72 Tryz.f13.results.toList (Tryz.f13.body.getD .skip) (hostlaw_NewWorld.RV R) [([(0, [1, 1, 1, 1, 0, 1, 0, 0, 1, 1]), (2, [1, 1, 1, 1, 0, 1, 0, 0]), (1, [0]), (0, [1, 1, 1, 1, 1])], fun σ w => dB (slotOf σ 0) fun quiet_ => dK (slotOf σ 5) fun w0_ => dI .i64 (slotOf σ 6) fun i_ => sB1 quiet_ w0_ i_ w)] 2000) [(0, [1, 1, 1, 1, 0, 1, 0, 0]), (2, [1, 1, 1, 1, 0, 1, 0, 0]), (1, [0]), (0, [1, 1, 1, 1, 1])] [(0, .bool quiet), (5, .pointer (some ⟨w0, 0, none⟩)), (6, .int .i64 i)] w := by kernel_rfl
theorem hostlaw_NewWorld.L1b_sound {R : Option Addr → World → Prop} {N1 : Bool → Nat → Int → World → Prop} (hN1 : ∀ quiet w0 i w, N1 quiet w0 i w → KW Tryz.prog 13 72 (hostlaw_NewWorld.RV R) ([(0, [1, 1, 1, 1, 0, 1, 0, 0]), (2, [1, 1, 1, 1, 0, 1, 0, 0]), (1, [0]), (0, [1, 1, 1, 1, 1])].map (toItem (Tryz.f13.body.getD .skip))) [(0, .bool quiet), (5, .pointer (some ⟨w0, 0, none⟩)), (6, .int .i64 i)] w) (quiet : Bool) (w0 : Nat) (i : Int) (w : World) (h : hostlaw_NewWorld.L1b quiet w0 i w  N1 R) :
    KW Tryz.prog 13 72 (hostlaw_NewWorld.RV R) ([(0, [1, 1, 1, 1, 0, 1, 0, 0]), (2, [1, 1, 1, 1, 0, 1, 0, 0]), (1, [0]), (0, [1, 1, 1, 1, 1])].map (toItem (Tryz.f13.body.getD .skip))) [(0, .bool quiet), (5, .pointer (some ⟨w0, 0, none⟩)), (6, .int .i64 i)] w := by
  exact block_spec Tryz.func13 Tryz.mixed (stops_cons (fun σ w h => by
      obtain ⟨quiet_, e0, h⟩ := dB_elim h
      obtain ⟨w0_, e1, h⟩ := dK_elim h
      obtain ⟨i_, e2, h⟩ := dI_elim h
      exact (hostlaw_NewWorld.B1_sound hN1 quiet_ w0_ i_ w h).weaken (Sub.cons (Sub.cons (Sub.cons (Sub.nil _) e2) e1) e0)) stops_nil) (Eq.mp (hostlaw_NewWorld.L1b_eq quiet w0 i w  N1 R (fun quiet_ w0_ i_ w => hostlaw_NewWorld.B1 quiet_ w0_ i_ w N1 R)) h)
def hostlaw_NewWorld.L1 (quiet : Bool) (w0 : Nat) (i : Int) (w : World)  (R : Option Addr → World → Prop) : Prop :=
  ∃ (I : Nat → Bool → Nat → Int → World → Prop) (m : Nat), I m quiet w0 i w ∧ ∀ m quiet w0 i w, I m quiet w0 i w → hostlaw_NewWorld.L1b quiet w0 i w  (fun quiet' w0' i' w' => ∃ m', m' < m ∧ I m' quiet' w0' i' w') R
theorem hostlaw_NewWorld.L1_sound {R : Option Addr → World → Prop}  (quiet : Bool) (w0 : Nat) (i : Int) (w : World) (h : hostlaw_NewWorld.L1 quiet w0 i w  R) :
    KW Tryz.prog 13 72 (hostlaw_NewWorld.RV R) ([(0, [1, 1, 1, 1, 0, 1, 0, 0]), (2, [1, 1, 1, 1, 0, 1, 0, 0]), (1, [0]), (0, [1, 1, 1, 1, 1])].map (toItem (Tryz.f13.body.getD .skip))) [(0, .bool quiet), (5, .pointer (some ⟨w0, 0, none⟩)), (6, .int .i64 i)] w := by
  obtain ⟨I, m, hBase, hr⟩ := h
  refine KW.loop (fun m σ w => ∃ (quiet : Bool) (w0 : Nat) (i : Int), σ = [(0, .bool quiet), (5, .pointer (some ⟨w0, 0, none⟩)), (6, .int .i64 i)] ∧ I m quiet w0 i w) ?_ m _ w ⟨quiet, w0, i, rfl, hBase⟩
  rintro m ih σ w ⟨quiet, w0, i, rfl, hI⟩
  exact hostlaw_NewWorld.L1b_sound  (N1 := fun quiet' w0' i' w' => ∃ m', m' < m ∧ I m' quiet' w0' i' w') (fun quiet' w0' i' w' hx => by obtain ⟨m', hlt, hI'⟩ := hx; exact ih m' hlt _ w' ⟨quiet', w0', i', rfl, hI'⟩) quiet w0 i w (hr m quiet w0 i w hI)
def hostlaw_NewWorld.B0 (quiet : Bool) (w : World)   (R : Option Addr → World → Prop) : Prop :=
  wirem_New.Call  w fun r7 w1 =>
  hostm_New.Call  w1 fun r8 w2 =>
  New (.cells #[.pointer none, .pointer none, .pointer none, .pointer none, .pointer none, .pointer none, .pointer none, .pointer none, .pointer none, .pointer none, .pointer none, .pointer none, .pointer none, .pointer none, .pointer none, .pointer none, .pointer none, .pointer none, .pointer none, .pointer none, .pointer none, .pointer none, .pointer none, .pointer none, .pointer none, .pointer none, .pointer none, .bool quiet, .int .i64 (0 : Int), .pointer r7, .pointer r8, .int .i64 (0 : Int), .int .i64 (0 : Int), .int .i64 (0 : Int), .slice none 0 0, .slice none 0 0, .slice none 0 0, .int .i64 (0 : Int), .int .i64 (0 : Int), .int .i64 (0 : Int), .int .i64 (0 : Int), .int .i64 (0 : Int), .int .i64 (0 : Int), .int .i64 (0 : Int), .bool false, .int .i64 (0 : Int), .slice none 0 0, .slice none 0 0, .slice none 0 0, .slice none 0 0] 53) w2 fun b13 w3 =>
  hostlaw_NewWorld.L1 quiet b13 (0 : Int) w3  R
theorem hostlaw_NewWorld.B0_eq (quiet : Bool) (w : World)   (R : Option Addr → World → Prop) (sL1 : Bool → Nat → Int → World → Prop) :
    (
  wirem_New.Call  w fun r7 w1 =>
  hostm_New.Call  w1 fun r8 w2 =>
  New (.cells #[.pointer none, .pointer none, .pointer none, .pointer none, .pointer none, .pointer none, .pointer none, .pointer none, .pointer none, .pointer none, .pointer none, .pointer none, .pointer none, .pointer none, .pointer none, .pointer none, .pointer none, .pointer none, .pointer none, .pointer none, .pointer none, .pointer none, .pointer none, .pointer none, .pointer none, .pointer none, .pointer none, .bool quiet, .int .i64 (0 : Int), .pointer r7, .pointer r8, .int .i64 (0 : Int), .int .i64 (0 : Int), .int .i64 (0 : Int), .slice none 0 0, .slice none 0 0, .slice none 0 0, .int .i64 (0 : Int), .int .i64 (0 : Int), .int .i64 (0 : Int), .int .i64 (0 : Int), .int .i64 (0 : Int), .int .i64 (0 : Int), .int .i64 (0 : Int), .bool false, .int .i64 (0 : Int), .slice none 0 0, .slice none 0 0, .slice none 0 0, .slice none 0 0] 53) w2 fun b13 w3 =>
  sL1 quiet b13 (0 : Int) w3) = kstep Tryz.prog 72 Tryz.f13.results.toList (Tryz.f13.body.getD .skip) (hostlaw_NewWorld.RV R) (kvc Tryz.prog 72 Tryz.f13.results.toList (Tryz.f13.body.getD .skip) (hostlaw_NewWorld.RV R) [([(0, [1, 1, 1, 1, 0, 1, 0, 0]), (2, [1, 1, 1, 1, 0, 1, 0, 0]), (1, [0]), (0, [1, 1, 1, 1, 1])], fun σ w => dB (slotOf σ 0) fun quiet_ => dK (slotOf σ 5) fun w0_ => dI .i64 (slotOf σ 6) fun i_ => sL1 quiet_ w0_ i_ w)] 2000) [(0, [])] [(0, .bool quiet)] w := by kernel_rfl
theorem hostlaw_NewWorld.B0_sound {R : Option Addr → World → Prop}  (quiet : Bool) (w : World) (h : hostlaw_NewWorld.B0 quiet w   R) :
    KW Tryz.prog 13 72 (hostlaw_NewWorld.RV R) ([(0, [])].map (toItem (Tryz.f13.body.getD .skip))) [(0, .bool quiet)] w := by
  exact block_spec Tryz.func13 Tryz.mixed (stops_cons (fun σ w h => by
      obtain ⟨quiet_, e0, h⟩ := dB_elim h
      obtain ⟨w0_, e1, h⟩ := dK_elim h
      obtain ⟨i_, e2, h⟩ := dI_elim h
      exact (hostlaw_NewWorld.L1_sound  quiet_ w0_ i_ w h).weaken (Sub.cons (Sub.cons (Sub.cons (Sub.nil _) e2) e1) e0)) stops_nil) (Eq.mp (hostlaw_NewWorld.B0_eq quiet w   R (fun quiet_ w0_ i_ w => hostlaw_NewWorld.L1 quiet_ w0_ i_ w  R)) h)
theorem hostlaw_NewWorld.sound (quiet : Bool) (w : World) (R : Option Addr → World → Prop) (h : hostlaw_NewWorld.B0 quiet w R) : hostlaw_NewWorld.Call quiet w R := by
  have hc := calls_of_block (args := #[.bool quiet]) Tryz.func13 (body := (Tryz.f13.body.getD .skip)) (by kernel_rfl) (by kernel_rfl) (args_slot _) (hostlaw_NewWorld.B0_sound quiet w h)
  exact hc.mono fun e w' he => by
    obtain ⟨v, rfl, hv⟩ := he
    exact hostlaw_NewWorld.RV_elim hv
def hostlaw_World_Look.B8 (w0 : Option Addr) (c : Int) (h0 list_b : Option Addr) (list_l list_c : Nat) (i : Int) (w : World) (N1 : Option Addr → Int → World → Prop) (N2 : Option Addr → Int → Option Addr → Option Addr → Nat → Nat → Int → World → Prop)  (R : Bool → World → Prop) : Prop :=
  N2 w0 c h0 list_b list_l list_c (IntKind.i64.wrap (i + (1 : Int))) w
theorem hostlaw_World_Look.B8_eq (w0 : Option Addr) (c : Int) (h0 list_b : Option Addr) (list_l list_c : Nat) (i : Int) (w : World) (N1 : Option Addr → Int → World → Prop) (N2 : Option Addr → Int → Option Addr → Option Addr → Nat → Nat → Int → World → Prop)  (R : Bool → World → Prop)  :
    (
  N2 w0 c h0 list_b list_l list_c (IntKind.i64.wrap (i + (1 : Int))) w) = kstep Tryz.prog 259 Tryz.f14.results.toList (Tryz.f14.body.getD .skip) (hostlaw_World_Look.RV R) (kvc Tryz.prog 259 Tryz.f14.results.toList (Tryz.f14.body.getD .skip) (hostlaw_World_Look.RV R) [([(0, [1, 1, 0, 1, 0, 0, 1, 0, 0, 1, 1, 1, 1, 1, 1, 1, 1, 1, 0, 1, 0, 0]), (2, [1, 1, 0, 1, 0, 0, 1, 0, 0, 1, 1, 1, 1, 1, 1, 1, 1, 1, 0, 1, 0, 0]), (1, [2]), (0, [1, 1, 0, 1, 0, 0, 1, 0, 0, 1, 1, 1, 1, 1, 1, 1, 1, 1, 1]), (1, [1]), (0, [1, 1, 0, 1, 0, 0, 1, 1]), (2, [1, 1, 0, 1, 0, 0]), (1, [0]), (0, [1, 1, 1])], fun σ w => dP (slotOf σ 0) fun w0_ => dI .i64 (slotOf σ 3) fun c_ => dP (slotOf σ 4) fun h0_ => dL (slotOf σ 7) fun list_b_ list_l_ list_c_ => dI .i64 (slotOf σ 8) fun i_ => N2 w0_ c_ h0_ list_b_ list_l_ list_c_ i_ w)] 2000) [(0, [1, 1, 0, 1, 0, 0, 1, 0, 0, 1, 1, 1, 1, 1, 1, 1, 1, 1, 0, 1, 0, 0, 1, 1]), (2, [1, 1, 0, 1, 0, 0, 1, 0, 0, 1, 1, 1, 1, 1, 1, 1, 1, 1, 0, 1, 0, 0]), (1, [2]), (0, [1, 1, 0, 1, 0, 0, 1, 0, 0, 1, 1, 1, 1, 1, 1, 1, 1, 1, 1]), (1, [1]), (0, [1, 1, 0, 1, 0, 0, 1, 1]), (2, [1, 1, 0, 1, 0, 0]), (1, [0]), (0, [1, 1, 1])] [(0, .pointer w0), (3, .int .i64 c), (4, .pointer h0), (7, .slice list_b list_l list_c), (8, .int .i64 i)] w := by kernel_rfl
theorem hostlaw_World_Look.B8_sound {R : Bool → World → Prop} {N1 : Option Addr → Int → World → Prop} (hN1 : ∀ w0 c w, N1 w0 c w → KW Tryz.prog 14 259 (hostlaw_World_Look.RV R) ([(0, [1, 1, 0, 1, 0, 0]), (2, [1, 1, 0, 1, 0, 0]), (1, [0]), (0, [1, 1, 1])].map (toItem (Tryz.f14.body.getD .skip))) [(0, .pointer w0), (3, .int .i64 c)] w) {N2 : Option Addr → Int → Option Addr → Option Addr → Nat → Nat → Int → World → Prop} (hN2 : ∀ w0 c h0 list_b list_l list_c i w, N2 w0 c h0 list_b list_l list_c i w → KW Tryz.prog 14 259 (hostlaw_World_Look.RV R) ([(0, [1, 1, 0, 1, 0, 0, 1, 0, 0, 1, 1, 1, 1, 1, 1, 1, 1, 1, 0, 1, 0, 0]), (2, [1, 1, 0, 1, 0, 0, 1, 0, 0, 1, 1, 1, 1, 1, 1, 1, 1, 1, 0, 1, 0, 0]), (1, [2]), (0, [1, 1, 0, 1, 0, 0, 1, 0, 0, 1, 1, 1, 1, 1, 1, 1, 1, 1, 1]), (1, [1]), (0, [1, 1, 0, 1, 0, 0, 1, 1]), (2, [1, 1, 0, 1, 0, 0]), (1, [0]), (0, [1, 1, 1])].map (toItem (Tryz.f14.body.getD .skip))) [(0, .pointer w0), (3, .int .i64 c), (4, .pointer h0), (7, .slice list_b list_l list_c), (8, .int .i64 i)] w) (w0 : Option Addr) (c : Int) (h0 list_b : Option Addr) (list_l list_c : Nat) (i : Int) (w : World) (h : hostlaw_World_Look.B8 w0 c h0 list_b list_l list_c i w N1 N2  R) :
    KW Tryz.prog 14 259 (hostlaw_World_Look.RV R) ([(0, [1, 1, 0, 1, 0, 0, 1, 0, 0, 1, 1, 1, 1, 1, 1, 1, 1, 1, 0, 1, 0, 0, 1, 1]), (2, [1, 1, 0, 1, 0, 0, 1, 0, 0, 1, 1, 1, 1, 1, 1, 1, 1, 1, 0, 1, 0, 0]), (1, [2]), (0, [1, 1, 0, 1, 0, 0, 1, 0, 0, 1, 1, 1, 1, 1, 1, 1, 1, 1, 1]), (1, [1]), (0, [1, 1, 0, 1, 0, 0, 1, 1]), (2, [1, 1, 0, 1, 0, 0]), (1, [0]), (0, [1, 1, 1])].map (toItem (Tryz.f14.body.getD .skip))) [(0, .pointer w0), (3, .int .i64 c), (4, .pointer h0), (7, .slice list_b list_l list_c), (8, .int .i64 i)] w := by
  exact block_spec Tryz.func14 Tryz.mixed (stops_cons (fun σ w h => by
      obtain ⟨w0_, e0, h⟩ := dP_elim h
      obtain ⟨c_, e1, h⟩ := dI_elim h
      obtain ⟨h0_, e2, h⟩ := dP_elim h
      obtain ⟨list_b_, list_l_, list_c_, e3, h⟩ := dL_elim h
      obtain ⟨i_, e4, h⟩ := dI_elim h
      exact (hN2 w0_ c_ h0_ list_b_ list_l_ list_c_ i_ w h).weaken (Sub.cons (Sub.cons (Sub.cons (Sub.cons (Sub.cons (Sub.nil _) e4) e3) e2) e1) e0)) stops_nil) (Eq.mp (hostlaw_World_Look.B8_eq w0 c h0 list_b list_l list_c i w N1 N2  R ) h)
def hostlaw_World_Look.B7 (w0 : Option Addr) (c : Int) (h0 list_b : Option Addr) (list_l list_c : Nat) (i sd : Int) (s : Nat) (t165 : Bool) (w : World) (N1 : Option Addr → Int → World → Prop) (N2 : Option Addr → Int → Option Addr → Option Addr → Nat → Nat → Int → World → Prop)  (R : Bool → World → Prop) : Prop :=
  Bm t165 (
    Pn w0 fun a =>
    LdL (a.add 46) w.drew fun x170_b x170_l x170_c =>
    LdI .i64 ⟨s, 6, none⟩ w.drew fun x175 =>
    New (.cells #[.int .i64 c, .int .i64 sd, .int .i64 x175] 76) w.drew fun b177 w1 =>
    w1.cell? (a.add 46) = some (.slice x170_b x170_l x170_c) ∧
    Append 76 (.agg #[.int .i64 (0 : Int), .int .i64 (0 : Int), .int .i64 (0 : Int)]) 3 24 x170_b x170_l x170_c (some ⟨b177, 0, none⟩) 1 w1 fun b178 c178 w2 =>
    Pn w0 fun a_1 =>
    Sts [.slice b178 (x170_l + 1) c178] (a_1.add 46) 0 w2 fun w3 =>
    hostlaw_World_Look.B8 w0 c h0 list_b list_l list_c i w3 N1 N2 R) (
    hostlaw_World_Look.B8 w0 c h0 list_b list_l list_c i w N1 N2 R)
theorem hostlaw_World_Look.B7_eq (w0 : Option Addr) (c : Int) (h0 list_b : Option Addr) (list_l list_c : Nat) (i sd : Int) (s : Nat) (t165 : Bool) (w : World) (N1 : Option Addr → Int → World → Prop) (N2 : Option Addr → Int → Option Addr → Option Addr → Nat → Nat → Int → World → Prop)  (R : Bool → World → Prop) (sB8 : Option Addr → Int → Option Addr → Option Addr → Nat → Nat → Int → World → Prop) :
    (
  Bm t165 (
    Pn w0 fun a =>
    LdL (a.add 46) w.drew fun x170_b x170_l x170_c =>
    LdI .i64 ⟨s, 6, none⟩ w.drew fun x175 =>
    New (.cells #[.int .i64 c, .int .i64 sd, .int .i64 x175] 76) w.drew fun b177 w1 =>
    w1.cell? (a.add 46) = some (.slice x170_b x170_l x170_c) ∧
    Append 76 (.agg #[.int .i64 (0 : Int), .int .i64 (0 : Int), .int .i64 (0 : Int)]) 3 24 x170_b x170_l x170_c (some ⟨b177, 0, none⟩) 1 w1 fun b178 c178 w2 =>
    Pn w0 fun a_1 =>
    Sts [.slice b178 (x170_l + 1) c178] (a_1.add 46) 0 w2 fun w3 =>
    sB8 w0 c h0 list_b list_l list_c i w3) (
    sB8 w0 c h0 list_b list_l list_c i w)) = kstep Tryz.prog 259 Tryz.f14.results.toList (Tryz.f14.body.getD .skip) (hostlaw_World_Look.RV R) (kvc Tryz.prog 259 Tryz.f14.results.toList (Tryz.f14.body.getD .skip) (hostlaw_World_Look.RV R) [([(0, [1, 1, 0, 1, 0, 0, 1, 0, 0, 1, 1, 1, 1, 1, 1, 1, 1, 1, 0, 1, 0, 0, 1, 1]), (2, [1, 1, 0, 1, 0, 0, 1, 0, 0, 1, 1, 1, 1, 1, 1, 1, 1, 1, 0, 1, 0, 0]), (1, [2]), (0, [1, 1, 0, 1, 0, 0, 1, 0, 0, 1, 1, 1, 1, 1, 1, 1, 1, 1, 1]), (1, [1]), (0, [1, 1, 0, 1, 0, 0, 1, 1]), (2, [1, 1, 0, 1, 0, 0]), (1, [0]), (0, [1, 1, 1])], fun σ w => dP (slotOf σ 0) fun w0_ => dI .i64 (slotOf σ 3) fun c_ => dP (slotOf σ 4) fun h0_ => dL (slotOf σ 7) fun list_b_ list_l_ list_c_ => dI .i64 (slotOf σ 8) fun i_ => sB8 w0_ c_ h0_ list_b_ list_l_ list_c_ i_ w)] 2000) [(0, [1, 1, 0, 1, 0, 0, 1, 0, 0, 1, 1, 1, 1, 1, 1, 1, 1, 1, 0, 1, 0, 0, 1, 0, 0, 1, 1, 1, 1, 1, 1, 0, 1, 1]), (1, [3]), (0, [1, 1, 0, 1, 0, 0, 1, 0, 0, 1, 1, 1, 1, 1, 1, 1, 1, 1, 0, 1, 0, 0, 1, 1]), (2, [1, 1, 0, 1, 0, 0, 1, 0, 0, 1, 1, 1, 1, 1, 1, 1, 1, 1, 0, 1, 0, 0]), (1, [2]), (0, [1, 1, 0, 1, 0, 0, 1, 0, 0, 1, 1, 1, 1, 1, 1, 1, 1, 1, 1]), (1, [1]), (0, [1, 1, 0, 1, 0, 0, 1, 1]), (2, [1, 1, 0, 1, 0, 0]), (1, [0]), (0, [1, 1, 1])] [(0, .pointer w0), (3, .int .i64 c), (4, .pointer h0), (7, .slice list_b list_l list_c), (8, .int .i64 i), (9, .int .i64 sd), (10, .pointer (some ⟨s, 0, none⟩)), (165, .bool t165)] w := by kernel_rfl
theorem hostlaw_World_Look.B7_sound {R : Bool → World → Prop} {N1 : Option Addr → Int → World → Prop} (hN1 : ∀ w0 c w, N1 w0 c w → KW Tryz.prog 14 259 (hostlaw_World_Look.RV R) ([(0, [1, 1, 0, 1, 0, 0]), (2, [1, 1, 0, 1, 0, 0]), (1, [0]), (0, [1, 1, 1])].map (toItem (Tryz.f14.body.getD .skip))) [(0, .pointer w0), (3, .int .i64 c)] w) {N2 : Option Addr → Int → Option Addr → Option Addr → Nat → Nat → Int → World → Prop} (hN2 : ∀ w0 c h0 list_b list_l list_c i w, N2 w0 c h0 list_b list_l list_c i w → KW Tryz.prog 14 259 (hostlaw_World_Look.RV R) ([(0, [1, 1, 0, 1, 0, 0, 1, 0, 0, 1, 1, 1, 1, 1, 1, 1, 1, 1, 0, 1, 0, 0]), (2, [1, 1, 0, 1, 0, 0, 1, 0, 0, 1, 1, 1, 1, 1, 1, 1, 1, 1, 0, 1, 0, 0]), (1, [2]), (0, [1, 1, 0, 1, 0, 0, 1, 0, 0, 1, 1, 1, 1, 1, 1, 1, 1, 1, 1]), (1, [1]), (0, [1, 1, 0, 1, 0, 0, 1, 1]), (2, [1, 1, 0, 1, 0, 0]), (1, [0]), (0, [1, 1, 1])].map (toItem (Tryz.f14.body.getD .skip))) [(0, .pointer w0), (3, .int .i64 c), (4, .pointer h0), (7, .slice list_b list_l list_c), (8, .int .i64 i)] w) (w0 : Option Addr) (c : Int) (h0 list_b : Option Addr) (list_l list_c : Nat) (i sd : Int) (s : Nat) (t165 : Bool) (w : World) (h : hostlaw_World_Look.B7 w0 c h0 list_b list_l list_c i sd s t165 w N1 N2  R) :
    KW Tryz.prog 14 259 (hostlaw_World_Look.RV R) ([(0, [1, 1, 0, 1, 0, 0, 1, 0, 0, 1, 1, 1, 1, 1, 1, 1, 1, 1, 0, 1, 0, 0, 1, 0, 0, 1, 1, 1, 1, 1, 1, 0, 1, 1]), (1, [3]), (0, [1, 1, 0, 1, 0, 0, 1, 0, 0, 1, 1, 1, 1, 1, 1, 1, 1, 1, 0, 1, 0, 0, 1, 1]), (2, [1, 1, 0, 1, 0, 0, 1, 0, 0, 1, 1, 1, 1, 1, 1, 1, 1, 1, 0, 1, 0, 0]), (1, [2]), (0, [1, 1, 0, 1, 0, 0, 1, 0, 0, 1, 1, 1, 1, 1, 1, 1, 1, 1, 1]), (1, [1]), (0, [1, 1, 0, 1, 0, 0, 1, 1]), (2, [1, 1, 0, 1, 0, 0]), (1, [0]), (0, [1, 1, 1])].map (toItem (Tryz.f14.body.getD .skip))) [(0, .pointer w0), (3, .int .i64 c), (4, .pointer h0), (7, .slice list_b list_l list_c), (8, .int .i64 i), (9, .int .i64 sd), (10, .pointer (some ⟨s, 0, none⟩)), (165, .bool t165)] w := by
  exact block_spec Tryz.func14 Tryz.mixed (stops_cons (fun σ w h => by
      obtain ⟨w0_, e0, h⟩ := dP_elim h
      obtain ⟨c_, e1, h⟩ := dI_elim h
      obtain ⟨h0_, e2, h⟩ := dP_elim h
      obtain ⟨list_b_, list_l_, list_c_, e3, h⟩ := dL_elim h
      obtain ⟨i_, e4, h⟩ := dI_elim h
      exact (hostlaw_World_Look.B8_sound hN1 hN2 w0_ c_ h0_ list_b_ list_l_ list_c_ i_ w h).weaken (Sub.cons (Sub.cons (Sub.cons (Sub.cons (Sub.cons (Sub.nil _) e4) e3) e2) e1) e0)) stops_nil) (Eq.mp (hostlaw_World_Look.B7_eq w0 c h0 list_b list_l list_c i sd s t165 w N1 N2  R (fun w0_ c_ h0_ list_b_ list_l_ list_c_ i_ w => hostlaw_World_Look.B8 w0_ c_ h0_ list_b_ list_l_ list_c_ i_ w N1 N2 R)) h)
def hostlaw_World_Look.B5 (w0 : Option Addr) (c : Int) (h0 list_b : Option Addr) (list_l list_c : Nat) (i sd : Int) (s : Nat) (t137 : Bool) (w : World) (N1 : Option Addr → Int → World → Prop) (N2 : Option Addr → Int → Option Addr → Option Addr → Nat → Nat → Int → World → Prop)  (R : Bool → World → Prop) : Prop :=
  Bm t137 (
    R false w) (
    LdI .i64 ⟨s, 1, none⟩ w fun x140 =>
    Bm (x140 == (2 : Int)) (
      Pn w0 fun a =>
      LdP (a.add 30) w.drew fun x145 =>
      LdI .i64 ⟨s, 0, none⟩ w.drew fun x147_0 =>
      LdI .i64 ⟨s, 1, none⟩ w.drew fun x147_1 =>
      LdI .i64 ⟨s, 2, none⟩ w.drew fun x147_2 =>
      LdI .i64 ⟨s, 3, none⟩ w.drew fun x147_3 =>
      LdI .i64 ⟨s, 4, none⟩ w.drew fun x147_4 =>
      LdI .i64 ⟨s, 5, none⟩ w.drew fun x147_5 =>
      LdI .i64 ⟨s, 6, none⟩ w.drew fun x147_6 =>
      LdB ⟨s, 7, none⟩ w.drew fun x147_7 =>
      LdP ⟨s, 8, none⟩ w.drew fun x147_8 =>
      hostm_Net_See.Call x145 c x147_0 x147_1 x147_2 x147_3 x147_4 x147_5 x147_6 x147_7 x147_8 w.drew fun r148 w1 =>
      Bm (!r148) (
        R false w1) (
        LdI .i64 ⟨s, 6, none⟩ w1 fun x152 =>
        Bm (x152 != (0 : Int)) (
          LdB ⟨s, 7, none⟩ w1 fun x157 =>
          Bm x157 (
            hostlaw_World_waits.Call w0 c sd w1 fun r163 w2 =>
            hostlaw_World_Look.B7 w0 c h0 list_b list_l list_c i sd s (decide (r163 < (0 : Int))) w2 N1 N2 R) (
            hostlaw_World_Look.B7 w0 c h0 list_b list_l list_c i sd s false w1 N1 N2 R)) (
          hostlaw_World_Look.B7 w0 c h0 list_b list_l list_c i sd s false w1 N1 N2 R))) (
      LdI .i64 ⟨s, 1, none⟩ w fun x183 =>
      Bm (x183 != (1 : Int)) (
        R false w) (
        hostlaw_World_Look.B8 w0 c h0 list_b list_l list_c i w N1 N2 R)))
theorem hostlaw_World_Look.B5_eq (w0 : Option Addr) (c : Int) (h0 list_b : Option Addr) (list_l list_c : Nat) (i sd : Int) (s : Nat) (t137 : Bool) (w : World) (N1 : Option Addr → Int → World → Prop) (N2 : Option Addr → Int → Option Addr → Option Addr → Nat → Nat → Int → World → Prop)  (R : Bool → World → Prop) (sB7 : Option Addr → Int → Option Addr → Option Addr → Nat → Nat → Int → Int → Nat → Bool → World → Prop) (sB8 : Option Addr → Int → Option Addr → Option Addr → Nat → Nat → Int → World → Prop) :
    (
  Bm t137 (
    R false w) (
    LdI .i64 ⟨s, 1, none⟩ w fun x140 =>
    Bm (x140 == (2 : Int)) (
      Pn w0 fun a =>
      LdP (a.add 30) w.drew fun x145 =>
      LdI .i64 ⟨s, 0, none⟩ w.drew fun x147_0 =>
      LdI .i64 ⟨s, 1, none⟩ w.drew fun x147_1 =>
      LdI .i64 ⟨s, 2, none⟩ w.drew fun x147_2 =>
      LdI .i64 ⟨s, 3, none⟩ w.drew fun x147_3 =>
      LdI .i64 ⟨s, 4, none⟩ w.drew fun x147_4 =>
      LdI .i64 ⟨s, 5, none⟩ w.drew fun x147_5 =>
      LdI .i64 ⟨s, 6, none⟩ w.drew fun x147_6 =>
      LdB ⟨s, 7, none⟩ w.drew fun x147_7 =>
      LdP ⟨s, 8, none⟩ w.drew fun x147_8 =>
      hostm_Net_See.Call x145 c x147_0 x147_1 x147_2 x147_3 x147_4 x147_5 x147_6 x147_7 x147_8 w.drew fun r148 w1 =>
      Bm (!r148) (
        R false w1) (
        LdI .i64 ⟨s, 6, none⟩ w1 fun x152 =>
        Bm (x152 != (0 : Int)) (
          LdB ⟨s, 7, none⟩ w1 fun x157 =>
          Bm x157 (
            hostlaw_World_waits.Call w0 c sd w1 fun r163 w2 =>
            sB7 w0 c h0 list_b list_l list_c i sd s (decide (r163 < (0 : Int))) w2) (
            sB7 w0 c h0 list_b list_l list_c i sd s false w1)) (
          sB7 w0 c h0 list_b list_l list_c i sd s false w1))) (
      LdI .i64 ⟨s, 1, none⟩ w fun x183 =>
      Bm (x183 != (1 : Int)) (
        R false w) (
        sB8 w0 c h0 list_b list_l list_c i w)))) = kstep Tryz.prog 259 Tryz.f14.results.toList (Tryz.f14.body.getD .skip) (hostlaw_World_Look.RV R) (kvc Tryz.prog 259 Tryz.f14.results.toList (Tryz.f14.body.getD .skip) (hostlaw_World_Look.RV R) [([(0, [1, 1, 0, 1, 0, 0, 1, 0, 0, 1, 1, 1, 1, 1, 1, 1, 1, 1, 0, 1, 0, 0, 1, 0, 0, 1, 1, 1, 1, 1, 1, 0, 1, 1]), (1, [3]), (0, [1, 1, 0, 1, 0, 0, 1, 0, 0, 1, 1, 1, 1, 1, 1, 1, 1, 1, 0, 1, 0, 0, 1, 1]), (2, [1, 1, 0, 1, 0, 0, 1, 0, 0, 1, 1, 1, 1, 1, 1, 1, 1, 1, 0, 1, 0, 0]), (1, [2]), (0, [1, 1, 0, 1, 0, 0, 1, 0, 0, 1, 1, 1, 1, 1, 1, 1, 1, 1, 1]), (1, [1]), (0, [1, 1, 0, 1, 0, 0, 1, 1]), (2, [1, 1, 0, 1, 0, 0]), (1, [0]), (0, [1, 1, 1])], fun σ w => dP (slotOf σ 0) fun w0_ => dI .i64 (slotOf σ 3) fun c_ => dP (slotOf σ 4) fun h0_ => dL (slotOf σ 7) fun list_b_ list_l_ list_c_ => dI .i64 (slotOf σ 8) fun i_ => dI .i64 (slotOf σ 9) fun sd_ => dK (slotOf σ 10) fun s_ => dB (slotOf σ 165) fun t165_ => sB7 w0_ c_ h0_ list_b_ list_l_ list_c_ i_ sd_ s_ t165_ w),
    ([(0, [1, 1, 0, 1, 0, 0, 1, 0, 0, 1, 1, 1, 1, 1, 1, 1, 1, 1, 0, 1, 0, 0, 1, 1]), (2, [1, 1, 0, 1, 0, 0, 1, 0, 0, 1, 1, 1, 1, 1, 1, 1, 1, 1, 0, 1, 0, 0]), (1, [2]), (0, [1, 1, 0, 1, 0, 0, 1, 0, 0, 1, 1, 1, 1, 1, 1, 1, 1, 1, 1]), (1, [1]), (0, [1, 1, 0, 1, 0, 0, 1, 1]), (2, [1, 1, 0, 1, 0, 0]), (1, [0]), (0, [1, 1, 1])], fun σ w => dP (slotOf σ 0) fun w0_ => dI .i64 (slotOf σ 3) fun c_ => dP (slotOf σ 4) fun h0_ => dL (slotOf σ 7) fun list_b_ list_l_ list_c_ => dI .i64 (slotOf σ 8) fun i_ => sB8 w0_ c_ h0_ list_b_ list_l_ list_c_ i_ w)] 2000) [(0, [1, 1, 0, 1, 0, 0, 1, 0, 0, 1, 1, 1, 1, 1, 1, 1, 1, 1, 0, 1, 0, 0, 1, 0, 0, 1, 1, 1, 1, 0, 1]), (0, [1, 1, 0, 1, 0, 0, 1, 0, 0, 1, 1, 1, 1, 1, 1, 1, 1, 1, 0, 1, 0, 0, 1, 0, 0, 1, 1, 1, 1, 1]), (1, [3]), (0, [1, 1, 0, 1, 0, 0, 1, 0, 0, 1, 1, 1, 1, 1, 1, 1, 1, 1, 0, 1, 0, 0, 1, 1]), (2, [1, 1, 0, 1, 0, 0, 1, 0, 0, 1, 1, 1, 1, 1, 1, 1, 1, 1, 0, 1, 0, 0]), (1, [2]), (0, [1, 1, 0, 1, 0, 0, 1, 0, 0, 1, 1, 1, 1, 1, 1, 1, 1, 1, 1]), (1, [1]), (0, [1, 1, 0, 1, 0, 0, 1, 1]), (2, [1, 1, 0, 1, 0, 0]), (1, [0]), (0, [1, 1, 1])] [(0, .pointer w0), (3, .int .i64 c), (4, .pointer h0), (7, .slice list_b list_l list_c), (8, .int .i64 i), (9, .int .i64 sd), (10, .pointer (some ⟨s, 0, none⟩)), (137, .bool t137)] w := by kernel_rfl
theorem hostlaw_World_Look.B5_sound {R : Bool → World → Prop} {N1 : Option Addr → Int → World → Prop} (hN1 : ∀ w0 c w, N1 w0 c w → KW Tryz.prog 14 259 (hostlaw_World_Look.RV R) ([(0, [1, 1, 0, 1, 0, 0]), (2, [1, 1, 0, 1, 0, 0]), (1, [0]), (0, [1, 1, 1])].map (toItem (Tryz.f14.body.getD .skip))) [(0, .pointer w0), (3, .int .i64 c)] w) {N2 : Option Addr → Int → Option Addr → Option Addr → Nat → Nat → Int → World → Prop} (hN2 : ∀ w0 c h0 list_b list_l list_c i w, N2 w0 c h0 list_b list_l list_c i w → KW Tryz.prog 14 259 (hostlaw_World_Look.RV R) ([(0, [1, 1, 0, 1, 0, 0, 1, 0, 0, 1, 1, 1, 1, 1, 1, 1, 1, 1, 0, 1, 0, 0]), (2, [1, 1, 0, 1, 0, 0, 1, 0, 0, 1, 1, 1, 1, 1, 1, 1, 1, 1, 0, 1, 0, 0]), (1, [2]), (0, [1, 1, 0, 1, 0, 0, 1, 0, 0, 1, 1, 1, 1, 1, 1, 1, 1, 1, 1]), (1, [1]), (0, [1, 1, 0, 1, 0, 0, 1, 1]), (2, [1, 1, 0, 1, 0, 0]), (1, [0]), (0, [1, 1, 1])].map (toItem (Tryz.f14.body.getD .skip))) [(0, .pointer w0), (3, .int .i64 c), (4, .pointer h0), (7, .slice list_b list_l list_c), (8, .int .i64 i)] w) (w0 : Option Addr) (c : Int) (h0 list_b : Option Addr) (list_l list_c : Nat) (i sd : Int) (s : Nat) (t137 : Bool) (w : World) (h : hostlaw_World_Look.B5 w0 c h0 list_b list_l list_c i sd s t137 w N1 N2  R) :
    KW Tryz.prog 14 259 (hostlaw_World_Look.RV R) ([(0, [1, 1, 0, 1, 0, 0, 1, 0, 0, 1, 1, 1, 1, 1, 1, 1, 1, 1, 0, 1, 0, 0, 1, 0, 0, 1, 1, 1, 1, 0, 1]), (0, [1, 1, 0, 1, 0, 0, 1, 0, 0, 1, 1, 1, 1, 1, 1, 1, 1, 1, 0, 1, 0, 0, 1, 0, 0, 1, 1, 1, 1, 1]), (1, [3]), (0, [1, 1, 0, 1, 0, 0, 1, 0, 0, 1, 1, 1, 1, 1, 1, 1, 1, 1, 0, 1, 0, 0, 1, 1]), (2, [1, 1, 0, 1, 0, 0, 1, 0, 0, 1, 1, 1, 1, 1, 1, 1, 1, 1, 0, 1, 0, 0]), (1, [2]), (0, [1, 1, 0, 1, 0, 0, 1, 0, 0, 1, 1, 1, 1, 1, 1, 1, 1, 1, 1]), (1, [1]), (0, [1, 1, 0, 1, 0, 0, 1, 1]), (2, [1, 1, 0, 1, 0, 0]), (1, [0]), (0, [1, 1, 1])].map (toItem (Tryz.f14.body.getD .skip))) [(0, .pointer w0), (3, .int .i64 c), (4, .pointer h0), (7, .slice list_b list_l list_c), (8, .int .i64 i), (9, .int .i64 sd), (10, .pointer (some ⟨s, 0, none⟩)), (137, .bool t137)] w := by
  exact block_spec Tryz.func14 Tryz.mixed (stops_cons (fun σ w h => by
      obtain ⟨w0_, e0, h⟩ := dP_elim h
      obtain ⟨c_, e1, h⟩ := dI_elim h
      obtain ⟨h0_, e2, h⟩ := dP_elim h
      obtain ⟨list_b_, list_l_, list_c_, e3, h⟩ := dL_elim h
      obtain ⟨i_, e4, h⟩ := dI_elim h
      obtain ⟨sd_, e5, h⟩ := dI_elim h
      obtain ⟨s_, e6, h⟩ := dK_elim h
      obtain ⟨t165_, e7, h⟩ := dB_elim h
      exact (hostlaw_World_Look.B7_sound hN1 hN2 w0_ c_ h0_ list_b_ list_l_ list_c_ i_ sd_ s_ t165_ w h).weaken (Sub.cons (Sub.cons (Sub.cons (Sub.cons (Sub.cons (Sub.cons (Sub.cons (Sub.cons (Sub.nil _) e7) e6) e5) e4) e3) e2) e1) e0)) (stops_cons (fun σ w h => by
      obtain ⟨w0_, e0, h⟩ := dP_elim h
      obtain ⟨c_, e1, h⟩ := dI_elim h
      obtain ⟨h0_, e2, h⟩ := dP_elim h
      obtain ⟨list_b_, list_l_, list_c_, e3, h⟩ := dL_elim h
      obtain ⟨i_, e4, h⟩ := dI_elim h
      exact (hostlaw_World_Look.B8_sound hN1 hN2 w0_ c_ h0_ list_b_ list_l_ list_c_ i_ w h).weaken (Sub.cons (Sub.cons (Sub.cons (Sub.cons (Sub.cons (Sub.nil _) e4) e3) e2) e1) e0)) stops_nil)) (Eq.mp (hostlaw_World_Look.B5_eq w0 c h0 list_b list_l list_c i sd s t137 w N1 N2  R (fun w0_ c_ h0_ list_b_ list_l_ list_c_ i_ sd_ s_ t165_ w => hostlaw_World_Look.B7 w0_ c_ h0_ list_b_ list_l_ list_c_ i_ sd_ s_ t165_ w N1 N2 R) (fun w0_ c_ h0_ list_b_ list_l_ list_c_ i_ w => hostlaw_World_Look.B8 w0_ c_ h0_ list_b_ list_l_ list_c_ i_ w N1 N2 R)) h)
def hostlaw_World_Look.B3 (w0 : Option Addr) (c : Int) (h0 list_b : Option Addr) (list_l list_c : Nat) (i sd : Int) (w : World) (N1 : Option Addr → Int → World → Prop) (N2 : Option Addr → Int → Option Addr → Option Addr → Nat → Nat → Int → World → Prop)  (R : Bool → World → Prop) : Prop :=
  host_Host_Info.Call h0 sd w fun r126_0_0 r126_0_1 r126_0_2 r126_0_3 r126_0_4 r126_0_5 r126_0_6 r126_0_7 r126_0_8 r126_1 w1 =>
  New (.cells #[.int .i64 (0 : Int), .int .i64 (0 : Int), .int .i64 (0 : Int), .int .i64 (0 : Int), .int .i64 (0 : Int), .int .i64 (0 : Int), .int .i64 (0 : Int), .bool false, .pointer none] 69) w1 fun s_ w2 =>
  Sts [.int .i64 r126_0_0, .int .i64 r126_0_1, .int .i64 r126_0_2, .int .i64 r126_0_3, .int .i64 r126_0_4, .int .i64 r126_0_5, .int .i64 r126_0_6, .bool r126_0_7, .pointer r126_0_8] ⟨s_, 0, none⟩ 0 w2 fun w3 =>
  Bm (r126_1 != (0 : Int)) (
    hostlaw_World_Look.B5 w0 c h0 list_b list_l list_c i sd s_ true w3 N1 N2 R) (
    LdI .i64 ⟨s_, 0, none⟩ w3 fun x134 =>
    hostlaw_World_Look.B5 w0 c h0 list_b list_l list_c i sd s_ (x134 != sd) w3 N1 N2 R)
theorem hostlaw_World_Look.B3_eq (w0 : Option Addr) (c : Int) (h0 list_b : Option Addr) (list_l list_c : Nat) (i sd : Int) (w : World) (N1 : Option Addr → Int → World → Prop) (N2 : Option Addr → Int → Option Addr → Option Addr → Nat → Nat → Int → World → Prop)  (R : Bool → World → Prop) (sB5 : Option Addr → Int → Option Addr → Option Addr → Nat → Nat → Int → Int → Nat → Bool → World → Prop) :
    (
  host_Host_Info.Call h0 sd w fun r126_0_0 r126_0_1 r126_0_2 r126_0_3 r126_0_4 r126_0_5 r126_0_6 r126_0_7 r126_0_8 r126_1 w1 =>
  New (.cells #[.int .i64 (0 : Int), .int .i64 (0 : Int), .int .i64 (0 : Int), .int .i64 (0 : Int), .int .i64 (0 : Int), .int .i64 (0 : Int), .int .i64 (0 : Int), .bool false, .pointer none] 69) w1 fun s_ w2 =>
  Sts [.int .i64 r126_0_0, .int .i64 r126_0_1, .int .i64 r126_0_2, .int .i64 r126_0_3, .int .i64 r126_0_4, .int .i64 r126_0_5, .int .i64 r126_0_6, .bool r126_0_7, .pointer r126_0_8] ⟨s_, 0, none⟩ 0 w2 fun w3 =>
  Bm (r126_1 != (0 : Int)) (
    sB5 w0 c h0 list_b list_l list_c i sd s_ true w3) (
    LdI .i64 ⟨s_, 0, none⟩ w3 fun x134 =>
    sB5 w0 c h0 list_b list_l list_c i sd s_ (x134 != sd) w3)) = kstep Tryz.prog 259 Tryz.f14.results.toList (Tryz.f14.body.getD .skip) (hostlaw_World_Look.RV R) (kvc Tryz.prog 259 Tryz.f14.results.toList (Tryz.f14.body.getD .skip) (hostlaw_World_Look.RV R) [([(0, [1, 1, 0, 1, 0, 0, 1, 0, 0, 1, 1, 1, 1, 1, 1, 1, 1, 1, 0, 1, 0, 0, 1, 0, 0, 1, 1, 1, 1, 0, 1]), (0, [1, 1, 0, 1, 0, 0, 1, 0, 0, 1, 1, 1, 1, 1, 1, 1, 1, 1, 0, 1, 0, 0, 1, 0, 0, 1, 1, 1, 1, 1]), (1, [3]), (0, [1, 1, 0, 1, 0, 0, 1, 0, 0, 1, 1, 1, 1, 1, 1, 1, 1, 1, 0, 1, 0, 0, 1, 1]), (2, [1, 1, 0, 1, 0, 0, 1, 0, 0, 1, 1, 1, 1, 1, 1, 1, 1, 1, 0, 1, 0, 0]), (1, [2]), (0, [1, 1, 0, 1, 0, 0, 1, 0, 0, 1, 1, 1, 1, 1, 1, 1, 1, 1, 1]), (1, [1]), (0, [1, 1, 0, 1, 0, 0, 1, 1]), (2, [1, 1, 0, 1, 0, 0]), (1, [0]), (0, [1, 1, 1])], fun σ w => dP (slotOf σ 0) fun w0_ => dI .i64 (slotOf σ 3) fun c_ => dP (slotOf σ 4) fun h0_ => dL (slotOf σ 7) fun list_b_ list_l_ list_c_ => dI .i64 (slotOf σ 8) fun i_ => dI .i64 (slotOf σ 9) fun sd_ => dK (slotOf σ 10) fun s_ => dB (slotOf σ 137) fun t137_ => sB5 w0_ c_ h0_ list_b_ list_l_ list_c_ i_ sd_ s_ t137_ w)] 2000) [(0, [1, 1, 0, 1, 0, 0, 1, 0, 0, 1, 1, 1, 1, 1, 1, 1, 1, 1, 0, 1, 0, 0, 1, 0, 0, 1, 1, 1]), (1, [3]), (0, [1, 1, 0, 1, 0, 0, 1, 0, 0, 1, 1, 1, 1, 1, 1, 1, 1, 1, 0, 1, 0, 0, 1, 1]), (2, [1, 1, 0, 1, 0, 0, 1, 0, 0, 1, 1, 1, 1, 1, 1, 1, 1, 1, 0, 1, 0, 0]), (1, [2]), (0, [1, 1, 0, 1, 0, 0, 1, 0, 0, 1, 1, 1, 1, 1, 1, 1, 1, 1, 1]), (1, [1]), (0, [1, 1, 0, 1, 0, 0, 1, 1]), (2, [1, 1, 0, 1, 0, 0]), (1, [0]), (0, [1, 1, 1])] [(0, .pointer w0), (3, .int .i64 c), (4, .pointer h0), (7, .slice list_b list_l list_c), (8, .int .i64 i), (9, .int .i64 sd)] w := by kernel_rfl
theorem hostlaw_World_Look.B3_sound {R : Bool → World → Prop} {N1 : Option Addr → Int → World → Prop} (hN1 : ∀ w0 c w, N1 w0 c w → KW Tryz.prog 14 259 (hostlaw_World_Look.RV R) ([(0, [1, 1, 0, 1, 0, 0]), (2, [1, 1, 0, 1, 0, 0]), (1, [0]), (0, [1, 1, 1])].map (toItem (Tryz.f14.body.getD .skip))) [(0, .pointer w0), (3, .int .i64 c)] w) {N2 : Option Addr → Int → Option Addr → Option Addr → Nat → Nat → Int → World → Prop} (hN2 : ∀ w0 c h0 list_b list_l list_c i w, N2 w0 c h0 list_b list_l list_c i w → KW Tryz.prog 14 259 (hostlaw_World_Look.RV R) ([(0, [1, 1, 0, 1, 0, 0, 1, 0, 0, 1, 1, 1, 1, 1, 1, 1, 1, 1, 0, 1, 0, 0]), (2, [1, 1, 0, 1, 0, 0, 1, 0, 0, 1, 1, 1, 1, 1, 1, 1, 1, 1, 0, 1, 0, 0]), (1, [2]), (0, [1, 1, 0, 1, 0, 0, 1, 0, 0, 1, 1, 1, 1, 1, 1, 1, 1, 1, 1]), (1, [1]), (0, [1, 1, 0, 1, 0, 0, 1, 1]), (2, [1, 1, 0, 1, 0, 0]), (1, [0]), (0, [1, 1, 1])].map (toItem (Tryz.f14.body.getD .skip))) [(0, .pointer w0), (3, .int .i64 c), (4, .pointer h0), (7, .slice list_b list_l list_c), (8, .int .i64 i)] w) (w0 : Option Addr) (c : Int) (h0 list_b : Option Addr) (list_l list_c : Nat) (i sd : Int) (w : World) (h : hostlaw_World_Look.B3 w0 c h0 list_b list_l list_c i sd w N1 N2  R) :
    KW Tryz.prog 14 259 (hostlaw_World_Look.RV R) ([(0, [1, 1, 0, 1, 0, 0, 1, 0, 0, 1, 1, 1, 1, 1, 1, 1, 1, 1, 0, 1, 0, 0, 1, 0, 0, 1, 1, 1]), (1, [3]), (0, [1, 1, 0, 1, 0, 0, 1, 0, 0, 1, 1, 1, 1, 1, 1, 1, 1, 1, 0, 1, 0, 0, 1, 1]), (2, [1, 1, 0, 1, 0, 0, 1, 0, 0, 1, 1, 1, 1, 1, 1, 1, 1, 1, 0, 1, 0, 0]), (1, [2]), (0, [1, 1, 0, 1, 0, 0, 1, 0, 0, 1, 1, 1, 1, 1, 1, 1, 1, 1, 1]), (1, [1]), (0, [1, 1, 0, 1, 0, 0, 1, 1]), (2, [1, 1, 0, 1, 0, 0]), (1, [0]), (0, [1, 1, 1])].map (toItem (Tryz.f14.body.getD .skip))) [(0, .pointer w0), (3, .int .i64 c), (4, .pointer h0), (7, .slice list_b list_l list_c), (8, .int .i64 i), (9, .int .i64 sd)] w := by
  exact block_spec Tryz.func14 Tryz.mixed (stops_cons (fun σ w h => by
      obtain ⟨w0_, e0, h⟩ := dP_elim h
      obtain ⟨c_, e1, h⟩ := dI_elim h
      obtain ⟨h0_, e2, h⟩ := dP_elim h
      obtain ⟨list_b_, list_l_, list_c_, e3, h⟩ := dL_elim h
      obtain ⟨i_, e4, h⟩ := dI_elim h
      obtain ⟨sd_, e5, h⟩ := dI_elim h
      obtain ⟨s_, e6, h⟩ := dK_elim h
      obtain ⟨t137_, e7, h⟩ := dB_elim h
      exact (hostlaw_World_Look.B5_sound hN1 hN2 w0_ c_ h0_ list_b_ list_l_ list_c_ i_ sd_ s_ t137_ w h).weaken (Sub.cons (Sub.cons (Sub.cons (Sub.cons (Sub.cons (Sub.cons (Sub.cons (Sub.cons (Sub.nil _) e7) e6) e5) e4) e3) e2) e1) e0)) stops_nil) (Eq.mp (hostlaw_World_Look.B3_eq w0 c h0 list_b list_l list_c i sd w N1 N2  R (fun w0_ c_ h0_ list_b_ list_l_ list_c_ i_ sd_ s_ t137_ w => hostlaw_World_Look.B5 w0_ c_ h0_ list_b_ list_l_ list_c_ i_ sd_ s_ t137_ w N1 N2 R)) h)
def hostlaw_World_Look.B2 (w0 : Option Addr) (c : Int) (h0 list_b : Option Addr) (list_l list_c : Nat) (i sd : Int) (t99 : Bool) (w : World) (N1 : Option Addr → Int → World → Prop) (N2 : Option Addr → Int → Option Addr → Option Addr → Nat → Nat → Int → World → Prop)  (R : Bool → World → Prop) : Prop :=
  Bm t99 (
    R false w) (
    Pn w0 fun a =>
    (0 ≤ c ∧ c < ((3 : Nat) : Int)) ∧
    LdL (Addr.add (a.add 34) (c.toNat * 1)) w fun x105_b x105_l x105_c =>
    hostlaw_has.Call x105_b x105_l x105_c sd w fun r107 w1 =>
    Bm (!r107) (
      Pn w0 fun a_1 =>
      (0 ≤ c ∧ c < ((3 : Nat) : Int)) ∧
      LdI .i64 (Addr.add (a_1.add 31) (c.toNat * 1)) w1 fun x115 =>
      Bm (decide (sd ≤ x115)) (
        R false w1) (
        Pn w0 fun a_2 =>
        (0 ≤ c ∧ c < ((3 : Nat) : Int)) ∧
        Sts [.int .i64 sd] (Addr.add (a_2.add 31) (c.toNat * 1)) 0 w1 fun w2 =>
        hostlaw_World_Look.B3 w0 c h0 list_b list_l list_c i sd w2 N1 N2 R)) (
      hostlaw_World_Look.B3 w0 c h0 list_b list_l list_c i sd w1 N1 N2 R))
theorem hostlaw_World_Look.B2_eq (w0 : Option Addr) (c : Int) (h0 list_b : Option Addr) (list_l list_c : Nat) (i sd : Int) (t99 : Bool) (w : World) (N1 : Option Addr → Int → World → Prop) (N2 : Option Addr → Int → Option Addr → Option Addr → Nat → Nat → Int → World → Prop)  (R : Bool → World → Prop) (sB3 : Option Addr → Int → Option Addr → Option Addr → Nat → Nat → Int → Int → World → Prop) :
    (
  Bm t99 (
    R false w) (
    Pn w0 fun a =>
    (0 ≤ c ∧ c < ((3 : Nat) : Int)) ∧
    LdL (Addr.add (a.add 34) (c.toNat * 1)) w fun x105_b x105_l x105_c =>
    hostlaw_has.Call x105_b x105_l x105_c sd w fun r107 w1 =>
    Bm (!r107) (
      Pn w0 fun a_1 =>
      (0 ≤ c ∧ c < ((3 : Nat) : Int)) ∧
      LdI .i64 (Addr.add (a_1.add 31) (c.toNat * 1)) w1 fun x115 =>
      Bm (decide (sd ≤ x115)) (
        R false w1) (
        Pn w0 fun a_2 =>
        (0 ≤ c ∧ c < ((3 : Nat) : Int)) ∧
        Sts [.int .i64 sd] (Addr.add (a_2.add 31) (c.toNat * 1)) 0 w1 fun w2 =>
        sB3 w0 c h0 list_b list_l list_c i sd w2)) (
      sB3 w0 c h0 list_b list_l list_c i sd w1))) = kstep Tryz.prog 259 Tryz.f14.results.toList (Tryz.f14.body.getD .skip) (hostlaw_World_Look.RV R) (kvc Tryz.prog 259 Tryz.f14.results.toList (Tryz.f14.body.getD .skip) (hostlaw_World_Look.RV R) [([(0, [1, 1, 0, 1, 0, 0, 1, 0, 0, 1, 1, 1, 1, 1, 1, 1, 1, 1, 0, 1, 0, 0, 1, 0, 0, 1, 1, 1]), (1, [3]), (0, [1, 1, 0, 1, 0, 0, 1, 0, 0, 1, 1, 1, 1, 1, 1, 1, 1, 1, 0, 1, 0, 0, 1, 1]), (2, [1, 1, 0, 1, 0, 0, 1, 0, 0, 1, 1, 1, 1, 1, 1, 1, 1, 1, 0, 1, 0, 0]), (1, [2]), (0, [1, 1, 0, 1, 0, 0, 1, 0, 0, 1, 1, 1, 1, 1, 1, 1, 1, 1, 1]), (1, [1]), (0, [1, 1, 0, 1, 0, 0, 1, 1]), (2, [1, 1, 0, 1, 0, 0]), (1, [0]), (0, [1, 1, 1])], fun σ w => dP (slotOf σ 0) fun w0_ => dI .i64 (slotOf σ 3) fun c_ => dP (slotOf σ 4) fun h0_ => dL (slotOf σ 7) fun list_b_ list_l_ list_c_ => dI .i64 (slotOf σ 8) fun i_ => dI .i64 (slotOf σ 9) fun sd_ => sB3 w0_ c_ h0_ list_b_ list_l_ list_c_ i_ sd_ w)] 2000) [(0, [1, 1, 0, 1, 0, 0, 1, 0, 0, 1, 1, 1, 1, 1, 1, 1, 1, 1, 0, 1, 0, 0, 1, 0, 0, 1, 0, 1]), (0, [1, 1, 0, 1, 0, 0, 1, 0, 0, 1, 1, 1, 1, 1, 1, 1, 1, 1, 0, 1, 0, 0, 1, 0, 0, 1, 1]), (1, [3]), (0, [1, 1, 0, 1, 0, 0, 1, 0, 0, 1, 1, 1, 1, 1, 1, 1, 1, 1, 0, 1, 0, 0, 1, 1]), (2, [1, 1, 0, 1, 0, 0, 1, 0, 0, 1, 1, 1, 1, 1, 1, 1, 1, 1, 0, 1, 0, 0]), (1, [2]), (0, [1, 1, 0, 1, 0, 0, 1, 0, 0, 1, 1, 1, 1, 1, 1, 1, 1, 1, 1]), (1, [1]), (0, [1, 1, 0, 1, 0, 0, 1, 1]), (2, [1, 1, 0, 1, 0, 0]), (1, [0]), (0, [1, 1, 1])] [(0, .pointer w0), (3, .int .i64 c), (4, .pointer h0), (7, .slice list_b list_l list_c), (8, .int .i64 i), (9, .int .i64 sd), (99, .bool t99)] w := by kernel_rfl
theorem hostlaw_World_Look.B2_sound {R : Bool → World → Prop} {N1 : Option Addr → Int → World → Prop} (hN1 : ∀ w0 c w, N1 w0 c w → KW Tryz.prog 14 259 (hostlaw_World_Look.RV R) ([(0, [1, 1, 0, 1, 0, 0]), (2, [1, 1, 0, 1, 0, 0]), (1, [0]), (0, [1, 1, 1])].map (toItem (Tryz.f14.body.getD .skip))) [(0, .pointer w0), (3, .int .i64 c)] w) {N2 : Option Addr → Int → Option Addr → Option Addr → Nat → Nat → Int → World → Prop} (hN2 : ∀ w0 c h0 list_b list_l list_c i w, N2 w0 c h0 list_b list_l list_c i w → KW Tryz.prog 14 259 (hostlaw_World_Look.RV R) ([(0, [1, 1, 0, 1, 0, 0, 1, 0, 0, 1, 1, 1, 1, 1, 1, 1, 1, 1, 0, 1, 0, 0]), (2, [1, 1, 0, 1, 0, 0, 1, 0, 0, 1, 1, 1, 1, 1, 1, 1, 1, 1, 0, 1, 0, 0]), (1, [2]), (0, [1, 1, 0, 1, 0, 0, 1, 0, 0, 1, 1, 1, 1, 1, 1, 1, 1, 1, 1]), (1, [1]), (0, [1, 1, 0, 1, 0, 0, 1, 1]), (2, [1, 1, 0, 1, 0, 0]), (1, [0]), (0, [1, 1, 1])].map (toItem (Tryz.f14.body.getD .skip))) [(0, .pointer w0), (3, .int .i64 c), (4, .pointer h0), (7, .slice list_b list_l list_c), (8, .int .i64 i)] w) (w0 : Option Addr) (c : Int) (h0 list_b : Option Addr) (list_l list_c : Nat) (i sd : Int) (t99 : Bool) (w : World) (h : hostlaw_World_Look.B2 w0 c h0 list_b list_l list_c i sd t99 w N1 N2  R) :
    KW Tryz.prog 14 259 (hostlaw_World_Look.RV R) ([(0, [1, 1, 0, 1, 0, 0, 1, 0, 0, 1, 1, 1, 1, 1, 1, 1, 1, 1, 0, 1, 0, 0, 1, 0, 0, 1, 0, 1]), (0, [1, 1, 0, 1, 0, 0, 1, 0, 0, 1, 1, 1, 1, 1, 1, 1, 1, 1, 0, 1, 0, 0, 1, 0, 0, 1, 1]), (1, [3]), (0, [1, 1, 0, 1, 0, 0, 1, 0, 0, 1, 1, 1, 1, 1, 1, 1, 1, 1, 0, 1, 0, 0, 1, 1]), (2, [1, 1, 0, 1, 0, 0, 1, 0, 0, 1, 1, 1, 1, 1, 1, 1, 1, 1, 0, 1, 0, 0]), (1, [2]), (0, [1, 1, 0, 1, 0, 0, 1, 0, 0, 1, 1, 1, 1, 1, 1, 1, 1, 1, 1]), (1, [1]), (0, [1, 1, 0, 1, 0, 0, 1, 1]), (2, [1, 1, 0, 1, 0, 0]), (1, [0]), (0, [1, 1, 1])].map (toItem (Tryz.f14.body.getD .skip))) [(0, .pointer w0), (3, .int .i64 c), (4, .pointer h0), (7, .slice list_b list_l list_c), (8, .int .i64 i), (9, .int .i64 sd), (99, .bool t99)] w := by
  exact block_spec Tryz.func14 Tryz.mixed (stops_cons (fun σ w h => by
      obtain ⟨w0_, e0, h⟩ := dP_elim h
      obtain ⟨c_, e1, h⟩ := dI_elim h
      obtain ⟨h0_, e2, h⟩ := dP_elim h
      obtain ⟨list_b_, list_l_, list_c_, e3, h⟩ := dL_elim h
      obtain ⟨i_, e4, h⟩ := dI_elim h
      obtain ⟨sd_, e5, h⟩ := dI_elim h
      exact (hostlaw_World_Look.B3_sound hN1 hN2 w0_ c_ h0_ list_b_ list_l_ list_c_ i_ sd_ w h).weaken (Sub.cons (Sub.cons (Sub.cons (Sub.cons (Sub.cons (Sub.cons (Sub.nil _) e5) e4) e3) e2) e1) e0)) stops_nil) (Eq.mp (hostlaw_World_Look.B2_eq w0 c h0 list_b list_l list_c i sd t99 w N1 N2  R (fun w0_ c_ h0_ list_b_ list_l_ list_c_ i_ sd_ w => hostlaw_World_Look.B3 w0_ c_ h0_ list_b_ list_l_ list_c_ i_ sd_ w N1 N2 R)) h)
def hostlaw_World_Look.B6 (w0 : Option Addr) (c : Int) (list_b : Option Addr) (list_l list_c : Nat) (i : Int) (w : World) (N1 : Option Addr → Int → World → Prop) (N3 : Option Addr → Int → Option Addr → Nat → Nat → Int → World → Prop)  (R : Bool → World → Prop) : Prop :=
  N3 w0 c list_b list_l list_c (IntKind.i64.wrap (i + (1 : Int))) w
theorem hostlaw_World_Look.B6_eq (w0 : Option Addr) (c : Int) (list_b : Option Addr) (list_l list_c : Nat) (i : Int) (w : World) (N1 : Option Addr → Int → World → Prop) (N3 : Option Addr → Int → Option Addr → Nat → Nat → Int → World → Prop)  (R : Bool → World → Prop)  :
    (
  N3 w0 c list_b list_l list_c (IntKind.i64.wrap (i + (1 : Int))) w) = kstep Tryz.prog 259 Tryz.f14.results.toList (Tryz.f14.body.getD .skip) (hostlaw_World_Look.RV R) (kvc Tryz.prog 259 Tryz.f14.results.toList (Tryz.f14.body.getD .skip) (hostlaw_World_Look.RV R) [([(0, [1, 1, 0, 1, 0, 0, 1, 0, 0, 1, 1, 1, 1, 1, 1, 1, 1, 1, 1, 1, 1, 1, 0, 0]), (2, [1, 1, 0, 1, 0, 0, 1, 0, 0, 1, 1, 1, 1, 1, 1, 1, 1, 1, 1, 1, 1, 1, 0, 0]), (1, [4]), (1, [1]), (0, [1, 1, 0, 1, 0, 0, 1, 1]), (2, [1, 1, 0, 1, 0, 0]), (1, [0]), (0, [1, 1, 1])], fun σ w => dP (slotOf σ 0) fun w0_ => dI .i64 (slotOf σ 3) fun c_ => dL (slotOf σ 7) fun list_b_ list_l_ list_c_ => dI .i64 (slotOf σ 12) fun i_ => N3 w0_ c_ list_b_ list_l_ list_c_ i_ w)] 2000) [(0, [1, 1, 0, 1, 0, 0, 1, 0, 0, 1, 1, 1, 1, 1, 1, 1, 1, 1, 1, 1, 1, 1, 0, 0, 1, 1]), (2, [1, 1, 0, 1, 0, 0, 1, 0, 0, 1, 1, 1, 1, 1, 1, 1, 1, 1, 1, 1, 1, 1, 0, 0]), (1, [4]), (1, [1]), (0, [1, 1, 0, 1, 0, 0, 1, 1]), (2, [1, 1, 0, 1, 0, 0]), (1, [0]), (0, [1, 1, 1])] [(0, .pointer w0), (3, .int .i64 c), (7, .slice list_b list_l list_c), (12, .int .i64 i)] w := by kernel_rfl
theorem hostlaw_World_Look.B6_sound {R : Bool → World → Prop} {N1 : Option Addr → Int → World → Prop} (hN1 : ∀ w0 c w, N1 w0 c w → KW Tryz.prog 14 259 (hostlaw_World_Look.RV R) ([(0, [1, 1, 0, 1, 0, 0]), (2, [1, 1, 0, 1, 0, 0]), (1, [0]), (0, [1, 1, 1])].map (toItem (Tryz.f14.body.getD .skip))) [(0, .pointer w0), (3, .int .i64 c)] w) {N3 : Option Addr → Int → Option Addr → Nat → Nat → Int → World → Prop} (hN3 : ∀ w0 c list_b list_l list_c i w, N3 w0 c list_b list_l list_c i w → KW Tryz.prog 14 259 (hostlaw_World_Look.RV R) ([(0, [1, 1, 0, 1, 0, 0, 1, 0, 0, 1, 1, 1, 1, 1, 1, 1, 1, 1, 1, 1, 1, 1, 0, 0]), (2, [1, 1, 0, 1, 0, 0, 1, 0, 0, 1, 1, 1, 1, 1, 1, 1, 1, 1, 1, 1, 1, 1, 0, 0]), (1, [4]), (1, [1]), (0, [1, 1, 0, 1, 0, 0, 1, 1]), (2, [1, 1, 0, 1, 0, 0]), (1, [0]), (0, [1, 1, 1])].map (toItem (Tryz.f14.body.getD .skip))) [(0, .pointer w0), (3, .int .i64 c), (7, .slice list_b list_l list_c), (12, .int .i64 i)] w) (w0 : Option Addr) (c : Int) (list_b : Option Addr) (list_l list_c : Nat) (i : Int) (w : World) (h : hostlaw_World_Look.B6 w0 c list_b list_l list_c i w N1 N3  R) :
    KW Tryz.prog 14 259 (hostlaw_World_Look.RV R) ([(0, [1, 1, 0, 1, 0, 0, 1, 0, 0, 1, 1, 1, 1, 1, 1, 1, 1, 1, 1, 1, 1, 1, 0, 0, 1, 1]), (2, [1, 1, 0, 1, 0, 0, 1, 0, 0, 1, 1, 1, 1, 1, 1, 1, 1, 1, 1, 1, 1, 1, 0, 0]), (1, [4]), (1, [1]), (0, [1, 1, 0, 1, 0, 0, 1, 1]), (2, [1, 1, 0, 1, 0, 0]), (1, [0]), (0, [1, 1, 1])].map (toItem (Tryz.f14.body.getD .skip))) [(0, .pointer w0), (3, .int .i64 c), (7, .slice list_b list_l list_c), (12, .int .i64 i)] w := by
  exact block_spec Tryz.func14 Tryz.mixed (stops_cons (fun σ w h => by
      obtain ⟨w0_, e0, h⟩ := dP_elim h
      obtain ⟨c_, e1, h⟩ := dI_elim h
      obtain ⟨list_b_, list_l_, list_c_, e2, h⟩ := dL_elim h
      obtain ⟨i_, e3, h⟩ := dI_elim h
      exact (hN3 w0_ c_ list_b_ list_l_ list_c_ i_ w h).weaken (Sub.cons (Sub.cons (Sub.cons (Sub.cons (Sub.nil _) e3) e2) e1) e0)) stops_nil) (Eq.mp (hostlaw_World_Look.B6_eq w0 c list_b list_l list_c i w N1 N3  R ) h)
def hostlaw_World_Look.B4 (w0 : Option Addr) (c : Int) (list_b : Option Addr) (list_l list_c : Nat) (i : Int) (t249 : Bool) (w : World) (N1 : Option Addr → Int → World → Prop) (N3 : Option Addr → Int → Option Addr → Nat → Nat → Int → World → Prop)  (R : Bool → World → Prop) : Prop :=
  Bm t249 (
    Pn w0 fun a =>
    LdP (a.add 30) w fun x253 =>
    hostm_Net_Unlisted.Call x253 i w fun r255 w1 =>
    Bm (!r255) (
      R false w1) (
      hostlaw_World_Look.B6 w0 c list_b list_l list_c i w1 N1 N3 R)) (
    hostlaw_World_Look.B6 w0 c list_b list_l list_c i w N1 N3 R)
theorem hostlaw_World_Look.B4_eq (w0 : Option Addr) (c : Int) (list_b : Option Addr) (list_l list_c : Nat) (i : Int) (t249 : Bool) (w : World) (N1 : Option Addr → Int → World → Prop) (N3 : Option Addr → Int → Option Addr → Nat → Nat → Int → World → Prop)  (R : Bool → World → Prop) (sB6 : Option Addr → Int → Option Addr → Nat → Nat → Int → World → Prop) :
    (
  Bm t249 (
    Pn w0 fun a =>
    LdP (a.add 30) w fun x253 =>
    hostm_Net_Unlisted.Call x253 i w fun r255 w1 =>
    Bm (!r255) (
      R false w1) (
      sB6 w0 c list_b list_l list_c i w1)) (
    sB6 w0 c list_b list_l list_c i w)) = kstep Tryz.prog 259 Tryz.f14.results.toList (Tryz.f14.body.getD .skip) (hostlaw_World_Look.RV R) (kvc Tryz.prog 259 Tryz.f14.results.toList (Tryz.f14.body.getD .skip) (hostlaw_World_Look.RV R) [([(0, [1, 1, 0, 1, 0, 0, 1, 0, 0, 1, 1, 1, 1, 1, 1, 1, 1, 1, 1, 1, 1, 1, 0, 0, 1, 1]), (2, [1, 1, 0, 1, 0, 0, 1, 0, 0, 1, 1, 1, 1, 1, 1, 1, 1, 1, 1, 1, 1, 1, 0, 0]), (1, [4]), (1, [1]), (0, [1, 1, 0, 1, 0, 0, 1, 1]), (2, [1, 1, 0, 1, 0, 0]), (1, [0]), (0, [1, 1, 1])], fun σ w => dP (slotOf σ 0) fun w0_ => dI .i64 (slotOf σ 3) fun c_ => dL (slotOf σ 7) fun list_b_ list_l_ list_c_ => dI .i64 (slotOf σ 12) fun i_ => sB6 w0_ c_ list_b_ list_l_ list_c_ i_ w)] 2000) [(0, [1, 1, 0, 1, 0, 0, 1, 0, 0, 1, 1, 1, 1, 1, 1, 1, 1, 1, 1, 1, 1, 1, 0, 0, 1, 0, 0, 1]), (1, [5]), (0, [1, 1, 0, 1, 0, 0, 1, 0, 0, 1, 1, 1, 1, 1, 1, 1, 1, 1, 1, 1, 1, 1, 0, 0, 1, 1]), (2, [1, 1, 0, 1, 0, 0, 1, 0, 0, 1, 1, 1, 1, 1, 1, 1, 1, 1, 1, 1, 1, 1, 0, 0]), (1, [4]), (1, [1]), (0, [1, 1, 0, 1, 0, 0, 1, 1]), (2, [1, 1, 0, 1, 0, 0]), (1, [0]), (0, [1, 1, 1])] [(0, .pointer w0), (3, .int .i64 c), (7, .slice list_b list_l list_c), (12, .int .i64 i), (249, .bool t249)] w := by kernel_rfl
theorem hostlaw_World_Look.B4_sound {R : Bool → World → Prop} {N1 : Option Addr → Int → World → Prop} (hN1 : ∀ w0 c w, N1 w0 c w → KW Tryz.prog 14 259 (hostlaw_World_Look.RV R) ([(0, [1, 1, 0, 1, 0, 0]), (2, [1, 1, 0, 1, 0, 0]), (1, [0]), (0, [1, 1, 1])].map (toItem (Tryz.f14.body.getD .skip))) [(0, .pointer w0), (3, .int .i64 c)] w) {N3 : Option Addr → Int → Option Addr → Nat → Nat → Int → World → Prop} (hN3 : ∀ w0 c list_b list_l list_c i w, N3 w0 c list_b list_l list_c i w → KW Tryz.prog 14 259 (hostlaw_World_Look.RV R) ([(0, [1, 1, 0, 1, 0, 0, 1, 0, 0, 1, 1, 1, 1, 1, 1, 1, 1, 1, 1, 1, 1, 1, 0, 0]), (2, [1, 1, 0, 1, 0, 0, 1, 0, 0, 1, 1, 1, 1, 1, 1, 1, 1, 1, 1, 1, 1, 1, 0, 0]), (1, [4]), (1, [1]), (0, [1, 1, 0, 1, 0, 0, 1, 1]), (2, [1, 1, 0, 1, 0, 0]), (1, [0]), (0, [1, 1, 1])].map (toItem (Tryz.f14.body.getD .skip))) [(0, .pointer w0), (3, .int .i64 c), (7, .slice list_b list_l list_c), (12, .int .i64 i)] w) (w0 : Option Addr) (c : Int) (list_b : Option Addr) (list_l list_c : Nat) (i : Int) (t249 : Bool) (w : World) (h : hostlaw_World_Look.B4 w0 c list_b list_l list_c i t249 w N1 N3  R) :
    KW Tryz.prog 14 259 (hostlaw_World_Look.RV R) ([(0, [1, 1, 0, 1, 0, 0, 1, 0, 0, 1, 1, 1, 1, 1, 1, 1, 1, 1, 1, 1, 1, 1, 0, 0, 1, 0, 0, 1]), (1, [5]), (0, [1, 1, 0, 1, 0, 0, 1, 0, 0, 1, 1, 1, 1, 1, 1, 1, 1, 1, 1, 1, 1, 1, 0, 0, 1, 1]), (2, [1, 1, 0, 1, 0, 0, 1, 0, 0, 1, 1, 1, 1, 1, 1, 1, 1, 1, 1, 1, 1, 1, 0, 0]), (1, [4]), (1, [1]), (0, [1, 1, 0, 1, 0, 0, 1, 1]), (2, [1, 1, 0, 1, 0, 0]), (1, [0]), (0, [1, 1, 1])].map (toItem (Tryz.f14.body.getD .skip))) [(0, .pointer w0), (3, .int .i64 c), (7, .slice list_b list_l list_c), (12, .int .i64 i), (249, .bool t249)] w := by
  exact block_spec Tryz.func14 Tryz.mixed (stops_cons (fun σ w h => by
      obtain ⟨w0_, e0, h⟩ := dP_elim h
      obtain ⟨c_, e1, h⟩ := dI_elim h
      obtain ⟨list_b_, list_l_, list_c_, e2, h⟩ := dL_elim h
      obtain ⟨i_, e3, h⟩ := dI_elim h
      exact (hostlaw_World_Look.B6_sound hN1 hN3 w0_ c_ list_b_ list_l_ list_c_ i_ w h).weaken (Sub.cons (Sub.cons (Sub.cons (Sub.cons (Sub.nil _) e3) e2) e1) e0)) stops_nil) (Eq.mp (hostlaw_World_Look.B4_eq w0 c list_b list_l list_c i t249 w N1 N3  R (fun w0_ c_ list_b_ list_l_ list_c_ i_ w => hostlaw_World_Look.B6 w0_ c_ list_b_ list_l_ list_c_ i_ w N1 N3 R)) h)
def hostlaw_World_Look.L3b (w0 : Option Addr) (c : Int) (list_b : Option Addr) (list_l list_c : Nat) (i : Int) (w : World) (N1 : Option Addr → Int → World → Prop) (N3 : Option Addr → Int → Option Addr → Nat → Nat → Int → World → Prop) (R : Bool → World → Prop) : Prop :=
  Pn w0 fun a =>
  LdP (a.add 30) w fun x199 =>
  Pn x199 fun a_1 =>
  LdL a_1 w fun x202_b x202_l x202_c =>
  Bm (decide (i < ((x202_l : Nat) : Int))) (
    Pn w0 fun a_2 =>
    LdP (a_2.add 30) w fun x210 =>
    Pn x210 fun a_3 =>
    LdL a_3 w fun x213_b x213_l x213_c =>
    Pn x213_b fun a_4 =>
    (0 ≤ i ∧ i < ((x213_l : Nat) : Int)) ∧
    LdI .i64 (Addr.add a_4 (i.toNat * 16)) w fun x217 =>
    Bm (x217 == c) (
      Pn w0 fun a_5 =>
      LdP (a_5.add 30) w fun x224 =>
      Pn x224 fun a_6 =>
      LdL a_6 w fun x227_b x227_l x227_c =>
      Pn x227_b fun a_7 =>
      (0 ≤ i ∧ i < ((x227_l : Nat) : Int)) ∧
      LdB ((Addr.add a_7 (i.toNat * 16)).add 15) w fun x231 =>
      Bm (!x231) (
        Pn w0 fun a_8 =>
        LdP (a_8.add 30) w fun x239 =>
        Pn x239 fun a_9 =>
        LdL a_9 w fun x242_b x242_l x242_c =>
        Pn x242_b fun a_10 =>
        (0 ≤ i ∧ i < ((x242_l : Nat) : Int)) ∧
        LdI .i64 ((Addr.add a_10 (i.toNat * 16)).add 1) w fun x246 =>
        hostlaw_has.Call list_b list_l list_c x246 w fun r247 w1 =>
        hostlaw_World_Look.B4 w0 c list_b list_l list_c i (!r247) w1 N1 N3 R) (
        hostlaw_World_Look.B4 w0 c list_b list_l list_c i false w N1 N3 R)) (
      hostlaw_World_Look.B4 w0 c list_b list_l list_c i false w N1 N3 R)) (
    N1 w0 (IntKind.i64.wrap (c + (1 : Int))) w)
theorem hostlaw_World_Look.L3b_eq (w0 : Option Addr) (c : Int) (list_b : Option Addr) (list_l list_c : Nat) (i : Int) (w : World) (N1 : Option Addr → Int → World → Prop) (N3 : Option Addr → Int → Option Addr → Nat → Nat → Int → World → Prop) (R : Bool → World → Prop) (sB4 : Option Addr → Int → Option Addr → Nat → Nat → Int → Bool → World → Prop) :
    (
  Pn w0 fun a =>
  LdP (a.add 30) w fun x199 =>
  Pn x199 fun a_1 =>
  LdL a_1 w fun x202_b x202_l x202_c =>
  Bm (decide (i < ((x202_l : Nat) : Int))) (
    Pn w0 fun a_2 =>
    LdP (a_2.add 30) w fun x210 =>
    Pn x210 fun a_3 =>
    LdL a_3 w fun x213_b x213_l x213_c =>
    Pn x213_b fun a_4 =>
    (0 ≤ i ∧ i < ((x213_l : Nat) : Int)) ∧
    LdI .i64 (Addr.add a_4 (i.toNat * 16)) w fun x217 =>
    Bm (x217 == c) (
      Pn w0 fun a_5 =>
      LdP (a_5.add 30) w fun x224 =>
      Pn x224 fun a_6 =>
      LdL a_6 w fun x227_b x227_l x227_c =>
      Pn x227_b fun a_7 =>
      (0 ≤ i ∧ i < ((x227_l : Nat) : Int)) ∧
      LdB ((Addr.add a_7 (i.toNat * 16)).add 15) w fun x231 =>
      Bm (!x231) (
        Pn w0 fun a_8 =>
        LdP (a_8.add 30) w fun x239 =>
        Pn x239 fun a_9 =>
        LdL a_9 w fun x242_b x242_l x242_c =>
        Pn x242_b fun a_10 =>
        (0 ≤ i ∧ i < ((x242_l : Nat) : Int)) ∧
        LdI .i64 ((Addr.add a_10 (i.toNat * 16)).add 1) w fun x246 =>
        hostlaw_has.Call list_b list_l list_c x246 w fun r247 w1 =>
        sB4 w0 c list_b list_l list_c i (!r247) w1) (
        sB4 w0 c list_b list_l list_c i false w)) (
      sB4 w0 c list_b list_l list_c i false w)) (
    N1 w0 (IntKind.i64.wrap (c + (1 : Int))) w)) = kstep Tryz.prog 259 Tryz.f14.results.toList (Tryz.f14.body.getD .skip) (hostlaw_World_Look.RV R) (kvc Tryz.prog 259 Tryz.f14.results.toList (Tryz.f14.body.getD .skip) (hostlaw_World_Look.RV R) [([(0, [1, 1, 0, 1, 0, 0, 1, 0, 0, 1, 1, 1, 1, 1, 1, 1, 1, 1, 1, 1, 1, 1, 0, 0, 1, 0, 0, 1]), (1, [5]), (0, [1, 1, 0, 1, 0, 0, 1, 0, 0, 1, 1, 1, 1, 1, 1, 1, 1, 1, 1, 1, 1, 1, 0, 0, 1, 1]), (2, [1, 1, 0, 1, 0, 0, 1, 0, 0, 1, 1, 1, 1, 1, 1, 1, 1, 1, 1, 1, 1, 1, 0, 0]), (1, [4]), (1, [1]), (0, [1, 1, 0, 1, 0, 0, 1, 1]), (2, [1, 1, 0, 1, 0, 0]), (1, [0]), (0, [1, 1, 1])], fun σ w => dP (slotOf σ 0) fun w0_ => dI .i64 (slotOf σ 3) fun c_ => dL (slotOf σ 7) fun list_b_ list_l_ list_c_ => dI .i64 (slotOf σ 12) fun i_ => dB (slotOf σ 249) fun t249_ => sB4 w0_ c_ list_b_ list_l_ list_c_ i_ t249_ w),
    ([(0, [1, 1, 0, 1, 0, 0]), (2, [1, 1, 0, 1, 0, 0]), (1, [0]), (0, [1, 1, 1])], fun σ w => dP (slotOf σ 0) fun w0_ => dI .i64 (slotOf σ 3) fun c_ => N1 w0_ c_ w)] 2000) [(0, [1, 1, 0, 1, 0, 0, 1, 0, 0, 1, 1, 1, 1, 1, 1, 1, 1, 1, 1, 1, 1, 1, 0, 0]), (2, [1, 1, 0, 1, 0, 0, 1, 0, 0, 1, 1, 1, 1, 1, 1, 1, 1, 1, 1, 1, 1, 1, 0, 0]), (1, [4]), (1, [1]), (0, [1, 1, 0, 1, 0, 0, 1, 1]), (2, [1, 1, 0, 1, 0, 0]), (1, [0]), (0, [1, 1, 1])] [(0, .pointer w0), (3, .int .i64 c), (7, .slice list_b list_l list_c), (12, .int .i64 i)] w := by kernel_rfl
theorem hostlaw_World_Look.L3b_sound {R : Bool → World → Prop} {N1 : Option Addr → Int → World → Prop} (hN1 : ∀ w0 c w, N1 w0 c w → KW Tryz.prog 14 259 (hostlaw_World_Look.RV R) ([(0, [1, 1, 0, 1, 0, 0]), (2, [1, 1, 0, 1, 0, 0]), (1, [0]), (0, [1, 1, 1])].map (toItem (Tryz.f14.body.getD .skip))) [(0, .pointer w0), (3, .int .i64 c)] w) {N3 : Option Addr → Int → Option Addr → Nat → Nat → Int → World → Prop} (hN3 : ∀ w0 c list_b list_l list_c i w, N3 w0 c list_b list_l list_c i w → KW Tryz.prog 14 259 (hostlaw_World_Look.RV R) ([(0, [1, 1, 0, 1, 0, 0, 1, 0, 0, 1, 1, 1, 1, 1, 1, 1, 1, 1, 1, 1, 1, 1, 0, 0]), (2, [1, 1, 0, 1, 0, 0, 1, 0, 0, 1, 1, 1, 1, 1, 1, 1, 1, 1, 1, 1, 1, 1, 0, 0]), (1, [4]), (1, [1]), (0, [1, 1, 0, 1, 0, 0, 1, 1]), (2, [1, 1, 0, 1, 0, 0]), (1, [0]), (0, [1, 1, 1])].map (toItem (Tryz.f14.body.getD .skip))) [(0, .pointer w0), (3, .int .i64 c), (7, .slice list_b list_l list_c), (12, .int .i64 i)] w) (w0 : Option Addr) (c : Int) (list_b : Option Addr) (list_l list_c : Nat) (i : Int) (w : World) (h : hostlaw_World_Look.L3b w0 c list_b list_l list_c i w N1 N3 R) :
    KW Tryz.prog 14 259 (hostlaw_World_Look.RV R) ([(0, [1, 1, 0, 1, 0, 0, 1, 0, 0, 1, 1, 1, 1, 1, 1, 1, 1, 1, 1, 1, 1, 1, 0, 0]), (2, [1, 1, 0, 1, 0, 0, 1, 0, 0, 1, 1, 1, 1, 1, 1, 1, 1, 1, 1, 1, 1, 1, 0, 0]), (1, [4]), (1, [1]), (0, [1, 1, 0, 1, 0, 0, 1, 1]), (2, [1, 1, 0, 1, 0, 0]), (1, [0]), (0, [1, 1, 1])].map (toItem (Tryz.f14.body.getD .skip))) [(0, .pointer w0), (3, .int .i64 c), (7, .slice list_b list_l list_c), (12, .int .i64 i)] w := by
  exact block_spec Tryz.func14 Tryz.mixed (stops_cons (fun σ w h => by
      obtain ⟨w0_, e0, h⟩ := dP_elim h
      obtain ⟨c_, e1, h⟩ := dI_elim h
      obtain ⟨list_b_, list_l_, list_c_, e2, h⟩ := dL_elim h
      obtain ⟨i_, e3, h⟩ := dI_elim h
      obtain ⟨t249_, e4, h⟩ := dB_elim h
      exact (hostlaw_World_Look.B4_sound hN1 hN3 w0_ c_ list_b_ list_l_ list_c_ i_ t249_ w h).weaken (Sub.cons (Sub.cons (Sub.cons (Sub.cons (Sub.cons (Sub.nil _) e4) e3) e2) e1) e0)) (stops_cons (fun σ w h => by
      obtain ⟨w0_, e0, h⟩ := dP_elim h
      obtain ⟨c_, e1, h⟩ := dI_elim h
      exact (hN1 w0_ c_ w h).weaken (Sub.cons (Sub.cons (Sub.nil _) e1) e0)) stops_nil)) (Eq.mp (hostlaw_World_Look.L3b_eq w0 c list_b list_l list_c i w N1 N3 R (fun w0_ c_ list_b_ list_l_ list_c_ i_ t249_ w => hostlaw_World_Look.B4 w0_ c_ list_b_ list_l_ list_c_ i_ t249_ w N1 N3 R)) h)
def hostlaw_World_Look.L3 (w0 : Option Addr) (c : Int) (list_b : Option Addr) (list_l list_c : Nat) (i : Int) (w : World) (N1 : Option Addr → Int → World → Prop) (R : Bool → World → Prop) : Prop :=
  ∃ (I : Nat → Option Addr → Int → Option Addr → Nat → Nat → Int → World → Prop) (m : Nat), I m w0 c list_b list_l list_c i w ∧ ∀ m w0 c list_b list_l list_c i w, I m w0 c list_b list_l list_c i w → hostlaw_World_Look.L3b w0 c list_b list_l list_c i w N1 (fun w0' c' list_b' list_l' list_c' i' w' => ∃ m', m' < m ∧ I m' w0' c' list_b' list_l' list_c' i' w') R
theorem hostlaw_World_Look.L3_sound {R : Bool → World → Prop} {N1 : Option Addr → Int → World → Prop} (hN1 : ∀ w0 c w, N1 w0 c w → KW Tryz.prog 14 259 (hostlaw_World_Look.RV R) ([(0, [1, 1, 0, 1, 0, 0]), (2, [1, 1, 0, 1, 0, 0]), (1, [0]), (0, [1, 1, 1])].map (toItem (Tryz.f14.body.getD .skip))) [(0, .pointer w0), (3, .int .i64 c)] w) (w0 : Option Addr) (c : Int) (list_b : Option Addr) (list_l list_c : Nat) (i : Int) (w : World) (h : hostlaw_World_Look.L3 w0 c list_b list_l list_c i w N1 R) :
    KW Tryz.prog 14 259 (hostlaw_World_Look.RV R) ([(0, [1, 1, 0, 1, 0, 0, 1, 0, 0, 1, 1, 1, 1, 1, 1, 1, 1, 1, 1, 1, 1, 1, 0, 0]), (2, [1, 1, 0, 1, 0, 0, 1, 0, 0, 1, 1, 1, 1, 1, 1, 1, 1, 1, 1, 1, 1, 1, 0, 0]), (1, [4]), (1, [1]), (0, [1, 1, 0, 1, 0, 0, 1, 1]), (2, [1, 1, 0, 1, 0, 0]), (1, [0]), (0, [1, 1, 1])].map (toItem (Tryz.f14.body.getD .skip))) [(0, .pointer w0), (3, .int .i64 c), (7, .slice list_b list_l list_c), (12, .int .i64 i)] w := by
  obtain ⟨I, m, hBase, hr⟩ := h
  refine KW.loop (fun m σ w => ∃ (w0 : Option Addr) (c : Int) (list_b : Option Addr) (list_l list_c : Nat) (i : Int), σ = [(0, .pointer w0), (3, .int .i64 c), (7, .slice list_b list_l list_c), (12, .int .i64 i)] ∧ I m w0 c list_b list_l list_c i w) ?_ m _ w ⟨w0, c, list_b, list_l, list_c, i, rfl, hBase⟩
  rintro m ih σ w ⟨w0, c, list_b, list_l, list_c, i, rfl, hI⟩
  exact hostlaw_World_Look.L3b_sound hN1 (N3 := fun w0' c' list_b' list_l' list_c' i' w' => ∃ m', m' < m ∧ I m' w0' c' list_b' list_l' list_c' i' w') (fun w0' c' list_b' list_l' list_c' i' w' hx => by obtain ⟨m', hlt, hI'⟩ := hx; exact ih m' hlt _ w' ⟨w0', c', list_b', list_l', list_c', i', rfl, hI'⟩) w0 c list_b list_l list_c i w (hr m w0 c list_b list_l list_c i w hI)
def hostlaw_World_Look.L2b (w0 : Option Addr) (c : Int) (h0 list_b : Option Addr) (list_l list_c : Nat) (i : Int) (w : World) (N1 : Option Addr → Int → World → Prop) (N2 : Option Addr → Int → Option Addr → Option Addr → Nat → Nat → Int → World → Prop) (R : Bool → World → Prop) : Prop :=
  Bm (decide (i < ((list_l : Nat) : Int))) (
    Pn list_b fun a =>
    (0 ≤ i ∧ i < ((list_l : Nat) : Int)) ∧
    LdI .i64 (Addr.add a (i.toNat * 1)) w fun x84 =>
    Bm (decide (x84 < (1 : Int))) (
      hostlaw_World_Look.B2 w0 c h0 list_b list_l list_c i x84 true w N1 N2 R) (
      Bm (decide (i > (0 : Int))) (
        Pn list_b fun a_1 =>
        (0 ≤ (IntKind.i64.wrap (i - (1 : Int))) ∧ (IntKind.i64.wrap (i - (1 : Int))) < ((list_l : Nat) : Int)) ∧
        LdI .i64 (Addr.add a_1 ((IntKind.i64.wrap (i - (1 : Int))).toNat * 1)) w fun x95 =>
        hostlaw_World_Look.B2 w0 c h0 list_b list_l list_c i x84 (decide (x95 ≥ x84)) w N1 N2 R) (
        hostlaw_World_Look.B2 w0 c h0 list_b list_l list_c i x84 false w N1 N2 R))) (
    Pn w0 fun a_2 =>
    (0 ≤ c ∧ c < ((3 : Nat) : Int)) ∧
    Sts [.slice list_b list_l list_c] (Addr.add (a_2.add 34) (c.toNat * 1)) 0 w fun w1 =>
    hostlaw_World_Seam.Call w0 c w1 fun r193 w2 =>
    Bm (!r193) (
      R false w2) (
      hostlaw_World_Look.L3 w0 c list_b list_l list_c (0 : Int) w2 N1 R))
theorem hostlaw_World_Look.L2b_eq (w0 : Option Addr) (c : Int) (h0 list_b : Option Addr) (list_l list_c : Nat) (i : Int) (w : World) (N1 : Option Addr → Int → World → Prop) (N2 : Option Addr → Int → Option Addr → Option Addr → Nat → Nat → Int → World → Prop) (R : Bool → World → Prop) (sB2 : Option Addr → Int → Option Addr → Option Addr → Nat → Nat → Int → Int → Bool → World → Prop) (sL3 : Option Addr → Int → Option Addr → Nat → Nat → Int → World → Prop) :
    (
  Bm (decide (i < ((list_l : Nat) : Int))) (
    Pn list_b fun a =>
    (0 ≤ i ∧ i < ((list_l : Nat) : Int)) ∧
    LdI .i64 (Addr.add a (i.toNat * 1)) w fun x84 =>
    Bm (decide (x84 < (1 : Int))) (
      sB2 w0 c h0 list_b list_l list_c i x84 true w) (
      Bm (decide (i > (0 : Int))) (
        Pn list_b fun a_1 =>
        (0 ≤ (IntKind.i64.wrap (i - (1 : Int))) ∧ (IntKind.i64.wrap (i - (1 : Int))) < ((list_l : Nat) : Int)) ∧
        LdI .i64 (Addr.add a_1 ((IntKind.i64.wrap (i - (1 : Int))).toNat * 1)) w fun x95 =>
        sB2 w0 c h0 list_b list_l list_c i x84 (decide (x95 ≥ x84)) w) (
        sB2 w0 c h0 list_b list_l list_c i x84 false w))) (
    Pn w0 fun a_2 =>
    (0 ≤ c ∧ c < ((3 : Nat) : Int)) ∧
    Sts [.slice list_b list_l list_c] (Addr.add (a_2.add 34) (c.toNat * 1)) 0 w fun w1 =>
    hostlaw_World_Seam.Call w0 c w1 fun r193 w2 =>
    Bm (!r193) (
      R false w2) (
      sL3 w0 c list_b list_l list_c (0 : Int) w2))) = kstep Tryz.prog 259 Tryz.f14.results.toList (Tryz.f14.body.getD .skip) (hostlaw_World_Look.RV R) (kvc Tryz.prog 259 Tryz.f14.results.toList (Tryz.f14.body.getD .skip) (hostlaw_World_Look.RV R) [([(0, [1, 1, 0, 1, 0, 0, 1, 0, 0, 1, 1, 1, 1, 1, 1, 1, 1, 1, 0, 1, 0, 0, 1, 0, 0, 1, 0, 1]), (0, [1, 1, 0, 1, 0, 0, 1, 0, 0, 1, 1, 1, 1, 1, 1, 1, 1, 1, 0, 1, 0, 0, 1, 0, 0, 1, 1]), (1, [3]), (0, [1, 1, 0, 1, 0, 0, 1, 0, 0, 1, 1, 1, 1, 1, 1, 1, 1, 1, 0, 1, 0, 0, 1, 1]), (2, [1, 1, 0, 1, 0, 0, 1, 0, 0, 1, 1, 1, 1, 1, 1, 1, 1, 1, 0, 1, 0, 0]), (1, [2]), (0, [1, 1, 0, 1, 0, 0, 1, 0, 0, 1, 1, 1, 1, 1, 1, 1, 1, 1, 1]), (1, [1]), (0, [1, 1, 0, 1, 0, 0, 1, 1]), (2, [1, 1, 0, 1, 0, 0]), (1, [0]), (0, [1, 1, 1])], fun σ w => dP (slotOf σ 0) fun w0_ => dI .i64 (slotOf σ 3) fun c_ => dP (slotOf σ 4) fun h0_ => dL (slotOf σ 7) fun list_b_ list_l_ list_c_ => dI .i64 (slotOf σ 8) fun i_ => dI .i64 (slotOf σ 9) fun sd_ => dB (slotOf σ 99) fun t99_ => sB2 w0_ c_ h0_ list_b_ list_l_ list_c_ i_ sd_ t99_ w),
    ([(0, [1, 1, 0, 1, 0, 0, 1, 0, 0, 1, 1, 1, 1, 1, 1, 1, 1, 1, 1, 1, 1, 1, 0, 0]), (2, [1, 1, 0, 1, 0, 0, 1, 0, 0, 1, 1, 1, 1, 1, 1, 1, 1, 1, 1, 1, 1, 1, 0, 0]), (1, [4]), (1, [1]), (0, [1, 1, 0, 1, 0, 0, 1, 1]), (2, [1, 1, 0, 1, 0, 0]), (1, [0]), (0, [1, 1, 1])], fun σ w => dP (slotOf σ 0) fun w0_ => dI .i64 (slotOf σ 3) fun c_ => dL (slotOf σ 7) fun list_b_ list_l_ list_c_ => dI .i64 (slotOf σ 12) fun i_ => sL3 w0_ c_ list_b_ list_l_ list_c_ i_ w)] 2000) [(0, [1, 1, 0, 1, 0, 0, 1, 0, 0, 1, 1, 1, 1, 1, 1, 1, 1, 1, 0, 1, 0, 0]), (2, [1, 1, 0, 1, 0, 0, 1, 0, 0, 1, 1, 1, 1, 1, 1, 1, 1, 1, 0, 1, 0, 0]), (1, [2]), (0, [1, 1, 0, 1, 0, 0, 1, 0, 0, 1, 1, 1, 1, 1, 1, 1, 1, 1, 1]), (1, [1]), (0, [1, 1, 0, 1, 0, 0, 1, 1]), (2, [1, 1, 0, 1, 0, 0]), (1, [0]), (0, [1, 1, 1])] [(0, .pointer w0), (3, .int .i64 c), (4, .pointer h0), (7, .slice list_b list_l list_c), (8, .int .i64 i)] w := by kernel_rfl
theorem hostlaw_World_Look.L2b_sound {R : Bool → World → Prop} {N1 : Option Addr → Int → World → Prop} (hN1 : ∀ w0 c w, N1 w0 c w → KW Tryz.prog 14 259 (hostlaw_World_Look.RV R) ([(0, [1, 1, 0, 1, 0, 0]), (2, [1, 1, 0, 1, 0, 0]), (1, [0]), (0, [1, 1, 1])].map (toItem (Tryz.f14.body.getD .skip))) [(0, .pointer w0), (3, .int .i64 c)] w) {N2 : Option Addr → Int → Option Addr → Option Addr → Nat → Nat → Int → World → Prop} (hN2 : ∀ w0 c h0 list_b list_l list_c i w, N2 w0 c h0 list_b list_l list_c i w → KW Tryz.prog 14 259 (hostlaw_World_Look.RV R) ([(0, [1, 1, 0, 1, 0, 0, 1, 0, 0, 1, 1, 1, 1, 1, 1, 1, 1, 1, 0, 1, 0, 0]), (2, [1, 1, 0, 1, 0, 0, 1, 0, 0, 1, 1, 1, 1, 1, 1, 1, 1, 1, 0, 1, 0, 0]), (1, [2]), (0, [1, 1, 0, 1, 0, 0, 1, 0, 0, 1, 1, 1, 1, 1, 1, 1, 1, 1, 1]), (1, [1]), (0, [1, 1, 0, 1, 0, 0, 1, 1]), (2, [1, 1, 0, 1, 0, 0]), (1, [0]), (0, [1, 1, 1])].map (toItem (Tryz.f14.body.getD .skip))) [(0, .pointer w0), (3, .int .i64 c), (4, .pointer h0), (7, .slice list_b list_l list_c), (8, .int .i64 i)] w) (w0 : Option Addr) (c : Int) (h0 list_b : Option Addr) (list_l list_c : Nat) (i : Int) (w : World) (h : hostlaw_World_Look.L2b w0 c h0 list_b list_l list_c i w N1 N2 R) :
    KW Tryz.prog 14 259 (hostlaw_World_Look.RV R) ([(0, [1, 1, 0, 1, 0, 0, 1, 0, 0, 1, 1, 1, 1, 1, 1, 1, 1, 1, 0, 1, 0, 0]), (2, [1, 1, 0, 1, 0, 0, 1, 0, 0, 1, 1, 1, 1, 1, 1, 1, 1, 1, 0, 1, 0, 0]), (1, [2]), (0, [1, 1, 0, 1, 0, 0, 1, 0, 0, 1, 1, 1, 1, 1, 1, 1, 1, 1, 1]), (1, [1]), (0, [1, 1, 0, 1, 0, 0, 1, 1]), (2, [1, 1, 0, 1, 0, 0]), (1, [0]), (0, [1, 1, 1])].map (toItem (Tryz.f14.body.getD .skip))) [(0, .pointer w0), (3, .int .i64 c), (4, .pointer h0), (7, .slice list_b list_l list_c), (8, .int .i64 i)] w := by
  exact block_spec Tryz.func14 Tryz.mixed (stops_cons (fun σ w h => by
      obtain ⟨w0_, e0, h⟩ := dP_elim h
      obtain ⟨c_, e1, h⟩ := dI_elim h
      obtain ⟨h0_, e2, h⟩ := dP_elim h
      obtain ⟨list_b_, list_l_, list_c_, e3, h⟩ := dL_elim h
      obtain ⟨i_, e4, h⟩ := dI_elim h
      obtain ⟨sd_, e5, h⟩ := dI_elim h
      obtain ⟨t99_, e6, h⟩ := dB_elim h
      exact (hostlaw_World_Look.B2_sound hN1 hN2 w0_ c_ h0_ list_b_ list_l_ list_c_ i_ sd_ t99_ w h).weaken (Sub.cons (Sub.cons (Sub.cons (Sub.cons (Sub.cons (Sub.cons (Sub.cons (Sub.nil _) e6) e5) e4) e3) e2) e1) e0)) (stops_cons (fun σ w h => by
      obtain ⟨w0_, e0, h⟩ := dP_elim h
      obtain ⟨c_, e1, h⟩ := dI_elim h
      obtain ⟨list_b_, list_l_, list_c_, e2, h⟩ := dL_elim h
      obtain ⟨i_, e3, h⟩ := dI_elim h
      exact (hostlaw_World_Look.L3_sound hN1 w0_ c_ list_b_ list_l_ list_c_ i_ w h).weaken (Sub.cons (Sub.cons (Sub.cons (Sub.cons (Sub.nil _) e3) e2) e1) e0)) stops_nil)) (Eq.mp (hostlaw_World_Look.L2b_eq w0 c h0 list_b list_l list_c i w N1 N2 R (fun w0_ c_ h0_ list_b_ list_l_ list_c_ i_ sd_ t99_ w => hostlaw_World_Look.B2 w0_ c_ h0_ list_b_ list_l_ list_c_ i_ sd_ t99_ w N1 N2 R) (fun w0_ c_ list_b_ list_l_ list_c_ i_ w => hostlaw_World_Look.L3 w0_ c_ list_b_ list_l_ list_c_ i_ w N1 R)) h)
def hostlaw_World_Look.L2 (w0 : Option Addr) (c : Int) (h0 list_b : Option Addr) (list_l list_c : Nat) (i : Int) (w : World) (N1 : Option Addr → Int → World → Prop) (R : Bool → World → Prop) : Prop :=
  ∃ (I : Nat → Option Addr → Int → Option Addr → Option Addr → Nat → Nat → Int → World → Prop) (m : Nat), I m w0 c h0 list_b list_l list_c i w ∧ ∀ m w0 c h0 list_b list_l list_c i w, I m w0 c h0 list_b list_l list_c i w → hostlaw_World_Look.L2b w0 c h0 list_b list_l list_c i w N1 (fun w0' c' h0' list_b' list_l' list_c' i' w' => ∃ m', m' < m ∧ I m' w0' c' h0' list_b' list_l' list_c' i' w') R
theorem hostlaw_World_Look.L2_sound {R : Bool → World → Prop} {N1 : Option Addr → Int → World → Prop} (hN1 : ∀ w0 c w, N1 w0 c w → KW Tryz.prog 14 259 (hostlaw_World_Look.RV R) ([(0, [1, 1, 0, 1, 0, 0]), (2, [1, 1, 0, 1, 0, 0]), (1, [0]), (0, [1, 1, 1])].map (toItem (Tryz.f14.body.getD .skip))) [(0, .pointer w0), (3, .int .i64 c)] w) (w0 : Option Addr) (c : Int) (h0 list_b : Option Addr) (list_l list_c : Nat) (i : Int) (w : World) (h : hostlaw_World_Look.L2 w0 c h0 list_b list_l list_c i w N1 R) :
    KW Tryz.prog 14 259 (hostlaw_World_Look.RV R) ([(0, [1, 1, 0, 1, 0, 0, 1, 0, 0, 1, 1, 1, 1, 1, 1, 1, 1, 1, 0, 1, 0, 0]), (2, [1, 1, 0, 1, 0, 0, 1, 0, 0, 1, 1, 1, 1, 1, 1, 1, 1, 1, 0, 1, 0, 0]), (1, [2]), (0, [1, 1, 0, 1, 0, 0, 1, 0, 0, 1, 1, 1, 1, 1, 1, 1, 1, 1, 1]), (1, [1]), (0, [1, 1, 0, 1, 0, 0, 1, 1]), (2, [1, 1, 0, 1, 0, 0]), (1, [0]), (0, [1, 1, 1])].map (toItem (Tryz.f14.body.getD .skip))) [(0, .pointer w0), (3, .int .i64 c), (4, .pointer h0), (7, .slice list_b list_l list_c), (8, .int .i64 i)] w := by
  obtain ⟨I, m, hBase, hr⟩ := h
  refine KW.loop (fun m σ w => ∃ (w0 : Option Addr) (c : Int) (h0 list_b : Option Addr) (list_l list_c : Nat) (i : Int), σ = [(0, .pointer w0), (3, .int .i64 c), (4, .pointer h0), (7, .slice list_b list_l list_c), (8, .int .i64 i)] ∧ I m w0 c h0 list_b list_l list_c i w) ?_ m _ w ⟨w0, c, h0, list_b, list_l, list_c, i, rfl, hBase⟩
  rintro m ih σ w ⟨w0, c, h0, list_b, list_l, list_c, i, rfl, hI⟩
  exact hostlaw_World_Look.L2b_sound hN1 (N2 := fun w0' c' h0' list_b' list_l' list_c' i' w' => ∃ m', m' < m ∧ I m' w0' c' h0' list_b' list_l' list_c' i' w') (fun w0' c' h0' list_b' list_l' list_c' i' w' hx => by obtain ⟨m', hlt, hI'⟩ := hx; exact ih m' hlt _ w' ⟨w0', c', h0', list_b', list_l', list_c', i', rfl, hI'⟩) w0 c h0 list_b list_l list_c i w (hr m w0 c h0 list_b list_l list_c i w hI)
def hostlaw_World_Look.B1 (w0 : Option Addr) (c : Int) (h0 : Option Addr) (w : World) (N1 : Option Addr → Int → World → Prop)  (R : Bool → World → Prop) : Prop :=
  host_Host_Socks.Call h0 w fun r69_b r69_l r69_c w1 =>
  hostlaw_CopyInts.Call r69_b r69_l r69_c w1 fun r71_b r71_l r71_c w2 =>
  hostlaw_World_OwnInts.Call w0 r69_b r69_l r69_c w2 fun w3 =>
  hostlaw_World_Look.L2 w0 c h0 r71_b r71_l r71_c (0 : Int) w3 N1 R
theorem hostlaw_World_Look.B1_eq (w0 : Option Addr) (c : Int) (h0 : Option Addr) (w : World) (N1 : Option Addr → Int → World → Prop)  (R : Bool → World → Prop) (sL2 : Option Addr → Int → Option Addr → Option Addr → Nat → Nat → Int → World → Prop) :
    (
  host_Host_Socks.Call h0 w fun r69_b r69_l r69_c w1 =>
  hostlaw_CopyInts.Call r69_b r69_l r69_c w1 fun r71_b r71_l r71_c w2 =>
  hostlaw_World_OwnInts.Call w0 r69_b r69_l r69_c w2 fun w3 =>
  sL2 w0 c h0 r71_b r71_l r71_c (0 : Int) w3) = kstep Tryz.prog 259 Tryz.f14.results.toList (Tryz.f14.body.getD .skip) (hostlaw_World_Look.RV R) (kvc Tryz.prog 259 Tryz.f14.results.toList (Tryz.f14.body.getD .skip) (hostlaw_World_Look.RV R) [([(0, [1, 1, 0, 1, 0, 0, 1, 0, 0, 1, 1, 1, 1, 1, 1, 1, 1, 1, 0, 1, 0, 0]), (2, [1, 1, 0, 1, 0, 0, 1, 0, 0, 1, 1, 1, 1, 1, 1, 1, 1, 1, 0, 1, 0, 0]), (1, [2]), (0, [1, 1, 0, 1, 0, 0, 1, 0, 0, 1, 1, 1, 1, 1, 1, 1, 1, 1, 1]), (1, [1]), (0, [1, 1, 0, 1, 0, 0, 1, 1]), (2, [1, 1, 0, 1, 0, 0]), (1, [0]), (0, [1, 1, 1])], fun σ w => dP (slotOf σ 0) fun w0_ => dI .i64 (slotOf σ 3) fun c_ => dP (slotOf σ 4) fun h0_ => dL (slotOf σ 7) fun list_b_ list_l_ list_c_ => dI .i64 (slotOf σ 8) fun i_ => sL2 w0_ c_ h0_ list_b_ list_l_ list_c_ i_ w)] 2000) [(0, [1, 1, 0, 1, 0, 0, 1, 0, 0, 1, 1, 1, 1, 1, 1]), (1, [1]), (0, [1, 1, 0, 1, 0, 0, 1, 1]), (2, [1, 1, 0, 1, 0, 0]), (1, [0]), (0, [1, 1, 1])] [(0, .pointer w0), (3, .int .i64 c), (4, .pointer h0)] w := by kernel_rfl
theorem hostlaw_World_Look.B1_sound {R : Bool → World → Prop} {N1 : Option Addr → Int → World → Prop} (hN1 : ∀ w0 c w, N1 w0 c w → KW Tryz.prog 14 259 (hostlaw_World_Look.RV R) ([(0, [1, 1, 0, 1, 0, 0]), (2, [1, 1, 0, 1, 0, 0]), (1, [0]), (0, [1, 1, 1])].map (toItem (Tryz.f14.body.getD .skip))) [(0, .pointer w0), (3, .int .i64 c)] w) (w0 : Option Addr) (c : Int) (h0 : Option Addr) (w : World) (h : hostlaw_World_Look.B1 w0 c h0 w N1  R) :
    KW Tryz.prog 14 259 (hostlaw_World_Look.RV R) ([(0, [1, 1, 0, 1, 0, 0, 1, 0, 0, 1, 1, 1, 1, 1, 1]), (1, [1]), (0, [1, 1, 0, 1, 0, 0, 1, 1]), (2, [1, 1, 0, 1, 0, 0]), (1, [0]), (0, [1, 1, 1])].map (toItem (Tryz.f14.body.getD .skip))) [(0, .pointer w0), (3, .int .i64 c), (4, .pointer h0)] w := by
  exact block_spec Tryz.func14 Tryz.mixed (stops_cons (fun σ w h => by
      obtain ⟨w0_, e0, h⟩ := dP_elim h
      obtain ⟨c_, e1, h⟩ := dI_elim h
      obtain ⟨h0_, e2, h⟩ := dP_elim h
      obtain ⟨list_b_, list_l_, list_c_, e3, h⟩ := dL_elim h
      obtain ⟨i_, e4, h⟩ := dI_elim h
      exact (hostlaw_World_Look.L2_sound hN1 w0_ c_ h0_ list_b_ list_l_ list_c_ i_ w h).weaken (Sub.cons (Sub.cons (Sub.cons (Sub.cons (Sub.cons (Sub.nil _) e4) e3) e2) e1) e0)) stops_nil) (Eq.mp (hostlaw_World_Look.B1_eq w0 c h0 w N1  R (fun w0_ c_ h0_ list_b_ list_l_ list_c_ i_ w => hostlaw_World_Look.L2 w0_ c_ h0_ list_b_ list_l_ list_c_ i_ w N1 R)) h)
def hostlaw_World_Look.L1b (w0 : Option Addr) (c : Int) (w : World)  (N1 : Option Addr → Int → World → Prop) (R : Bool → World → Prop) : Prop :=
  Bm (decide (c < (3 : Int))) (
    Pn w0 fun a =>
    (0 ≤ c ∧ c < ((3 : Nat) : Int)) ∧
    LdP (Addr.add a (c.toNat * 1)) w fun x26 =>
    host_Host_Check.Call x26 w fun r28 w1 =>
    Bm (!r28) (
      R false w1) (
      Pn w0 fun a_1 =>
      LdI .i64 (a_1.add 43) w1.drew fun x35 =>
      host_Host_Clock.Call x26 w1.drew fun r31 w2 =>
      w2.cell? (a_1.add 43) = some (.int .i64 x35) ∧
      Bm (r31 != x35) (
        R false w2) (
        host_Host_Lost.Call x26 w2 fun r38 w3 =>
        Pn w0 fun a_2 =>
        (0 ≤ c ∧ c < ((3 : Nat) : Int)) ∧
        LdI .i64 (Addr.add (a_2.add 37) (c.toNat * 1)) w3 fun x45 =>
        Bm (decide (r38 < x45)) (
          R false w3) (
          Pn w0 fun a_3 =>
          (0 ≤ c ∧ c < ((3 : Nat) : Int)) ∧
          LdI .i64 (Addr.add (a_3.add 37) (c.toNat * 1)) w3 fun x53 =>
          Bm (decide (r38 > x53)) (
            Pn w0 fun a_4 =>
            (0 ≤ c ∧ c < ((3 : Nat) : Int)) ∧
            LdI .i64 (Addr.add (a_4.add 40) (c.toNat * 1)) w3 fun x60 =>
            Bm (x60 != (24 : Int)) (
              R false w3) (
              Pn w0 fun a_5 =>
              (0 ≤ c ∧ c < ((3 : Nat) : Int)) ∧
              Sts [.int .i64 r38] (Addr.add (a_5.add 37) (c.toNat * 1)) 0 w3 fun w4 =>
              hostlaw_World_Look.B1 w0 c x26 w4 N1 R)) (
            hostlaw_World_Look.B1 w0 c x26 w3 N1 R))))) (
    hostlaw_World_sweep.Call w0 w fun w5 =>
    R true w5)
theorem hostlaw_World_Look.L1b_eq (w0 : Option Addr) (c : Int) (w : World)  (N1 : Option Addr → Int → World → Prop) (R : Bool → World → Prop) (sB1 : Option Addr → Int → Option Addr → World → Prop) :
    (
  Bm (decide (c < (3 : Int))) (
    Pn w0 fun a =>
    (0 ≤ c ∧ c < ((3 : Nat) : Int)) ∧
    LdP (Addr.add a (c.toNat * 1)) w fun x26 =>
    host_Host_Check.Call x26 w fun r28 w1 =>
    Bm (!r28) (
      R false w1) (
      Pn w0 fun a_1 =>
      LdI .i64 (a_1.add 43) w1.drew fun x35 =>
      host_Host_Clock.Call x26 w1.drew fun r31 w2 =>
      w2.cell? (a_1.add 43) = some (.int .i64 x35) ∧
      Bm (r31 != x35) (
        R false w2) (
        host_Host_Lost.Call x26 w2 fun r38 w3 =>
        Pn w0 fun a_2 =>
        (0 ≤ c ∧ c < ((3 : Nat) : Int)) ∧
        LdI .i64 (Addr.add (a_2.add 37) (c.toNat * 1)) w3 fun x45 =>
        Bm (decide (r38 < x45)) (
          R false w3) (
          Pn w0 fun a_3 =>
          (0 ≤ c ∧ c < ((3 : Nat) : Int)) ∧
          LdI .i64 (Addr.add (a_3.add 37) (c.toNat * 1)) w3 fun x53 =>
          Bm (decide (r38 > x53)) (
            Pn w0 fun a_4 =>
            (0 ≤ c ∧ c < ((3 : Nat) : Int)) ∧
            LdI .i64 (Addr.add (a_4.add 40) (c.toNat * 1)) w3 fun x60 =>
            Bm (x60 != (24 : Int)) (
              R false w3) (
              Pn w0 fun a_5 =>
              (0 ≤ c ∧ c < ((3 : Nat) : Int)) ∧
              Sts [.int .i64 r38] (Addr.add (a_5.add 37) (c.toNat * 1)) 0 w3 fun w4 =>
              sB1 w0 c x26 w4)) (
            sB1 w0 c x26 w3))))) (
    hostlaw_World_sweep.Call w0 w fun w5 =>
    R true w5)) = kstep Tryz.prog 259 Tryz.f14.results.toList (Tryz.f14.body.getD .skip) (hostlaw_World_Look.RV R) (kvc Tryz.prog 259 Tryz.f14.results.toList (Tryz.f14.body.getD .skip) (hostlaw_World_Look.RV R) [([(0, [1, 1, 0, 1, 0, 0, 1, 0, 0, 1, 1, 1, 1, 1, 1]), (1, [1]), (0, [1, 1, 0, 1, 0, 0, 1, 1]), (2, [1, 1, 0, 1, 0, 0]), (1, [0]), (0, [1, 1, 1])], fun σ w => dP (slotOf σ 0) fun w0_ => dI .i64 (slotOf σ 3) fun c_ => dP (slotOf σ 4) fun h0_ => sB1 w0_ c_ h0_ w)] 2000) [(0, [1, 1, 0, 1, 0, 0]), (2, [1, 1, 0, 1, 0, 0]), (1, [0]), (0, [1, 1, 1])] [(0, .pointer w0), (3, .int .i64 c)] w := by kernel_rfl
theorem hostlaw_World_Look.L1b_sound {R : Bool → World → Prop} {N1 : Option Addr → Int → World → Prop} (hN1 : ∀ w0 c w, N1 w0 c w → KW Tryz.prog 14 259 (hostlaw_World_Look.RV R) ([(0, [1, 1, 0, 1, 0, 0]), (2, [1, 1, 0, 1, 0, 0]), (1, [0]), (0, [1, 1, 1])].map (toItem (Tryz.f14.body.getD .skip))) [(0, .pointer w0), (3, .int .i64 c)] w) (w0 : Option Addr) (c : Int) (w : World) (h : hostlaw_World_Look.L1b w0 c w  N1 R) :
    KW Tryz.prog 14 259 (hostlaw_World_Look.RV R) ([(0, [1, 1, 0, 1, 0, 0]), (2, [1, 1, 0, 1, 0, 0]), (1, [0]), (0, [1, 1, 1])].map (toItem (Tryz.f14.body.getD .skip))) [(0, .pointer w0), (3, .int .i64 c)] w := by
  exact block_spec Tryz.func14 Tryz.mixed (stops_cons (fun σ w h => by
      obtain ⟨w0_, e0, h⟩ := dP_elim h
      obtain ⟨c_, e1, h⟩ := dI_elim h
      obtain ⟨h0_, e2, h⟩ := dP_elim h
      exact (hostlaw_World_Look.B1_sound hN1 w0_ c_ h0_ w h).weaken (Sub.cons (Sub.cons (Sub.cons (Sub.nil _) e2) e1) e0)) stops_nil) (Eq.mp (hostlaw_World_Look.L1b_eq w0 c w  N1 R (fun w0_ c_ h0_ w => hostlaw_World_Look.B1 w0_ c_ h0_ w N1 R)) h)
def hostlaw_World_Look.L1 (w0 : Option Addr) (c : Int) (w : World)  (R : Bool → World → Prop) : Prop :=
  ∃ (I : Nat → Option Addr → Int → World → Prop) (m : Nat), I m w0 c w ∧ ∀ m w0 c w, I m w0 c w → hostlaw_World_Look.L1b w0 c w  (fun w0' c' w' => ∃ m', m' < m ∧ I m' w0' c' w') R
theorem hostlaw_World_Look.L1_sound {R : Bool → World → Prop}  (w0 : Option Addr) (c : Int) (w : World) (h : hostlaw_World_Look.L1 w0 c w  R) :
    KW Tryz.prog 14 259 (hostlaw_World_Look.RV R) ([(0, [1, 1, 0, 1, 0, 0]), (2, [1, 1, 0, 1, 0, 0]), (1, [0]), (0, [1, 1, 1])].map (toItem (Tryz.f14.body.getD .skip))) [(0, .pointer w0), (3, .int .i64 c)] w := by
  obtain ⟨I, m, hBase, hr⟩ := h
  refine KW.loop (fun m σ w => ∃ (w0 : Option Addr) (c : Int), σ = [(0, .pointer w0), (3, .int .i64 c)] ∧ I m w0 c w) ?_ m _ w ⟨w0, c, rfl, hBase⟩
  rintro m ih σ w ⟨w0, c, rfl, hI⟩
  exact hostlaw_World_Look.L1b_sound  (N1 := fun w0' c' w' => ∃ m', m' < m ∧ I m' w0' c' w') (fun w0' c' w' hx => by obtain ⟨m', hlt, hI'⟩ := hx; exact ih m' hlt _ w' ⟨w0', c', rfl, hI'⟩) w0 c w (hr m w0 c w hI)
def hostlaw_World_Look.B0 (w0 : Option Addr) (w : World)   (R : Bool → World → Prop) : Prop :=
  Pn w0 fun a =>
  LdB (a.add 44) w fun x16 =>
  Bm x16 (
    R false w) (
    hostlaw_World_Look.L1 w0 (0 : Int) w  R)
theorem hostlaw_World_Look.B0_eq (w0 : Option Addr) (w : World)   (R : Bool → World → Prop) (sL1 : Option Addr → Int → World → Prop) :
    (
  Pn w0 fun a =>
  LdB (a.add 44) w fun x16 =>
  Bm x16 (
    R false w) (
    sL1 w0 (0 : Int) w)) = kstep Tryz.prog 259 Tryz.f14.results.toList (Tryz.f14.body.getD .skip) (hostlaw_World_Look.RV R) (kvc Tryz.prog 259 Tryz.f14.results.toList (Tryz.f14.body.getD .skip) (hostlaw_World_Look.RV R) [([(0, [1, 1, 0, 1, 0, 0]), (2, [1, 1, 0, 1, 0, 0]), (1, [0]), (0, [1, 1, 1])], fun σ w => dP (slotOf σ 0) fun w0_ => dI .i64 (slotOf σ 3) fun c_ => sL1 w0_ c_ w)] 2000) [(0, [])] [(0, .pointer w0)] w := by kernel_rfl
theorem hostlaw_World_Look.B0_sound {R : Bool → World → Prop}  (w0 : Option Addr) (w : World) (h : hostlaw_World_Look.B0 w0 w   R) :
    KW Tryz.prog 14 259 (hostlaw_World_Look.RV R) ([(0, [])].map (toItem (Tryz.f14.body.getD .skip))) [(0, .pointer w0)] w := by
  exact block_spec Tryz.func14 Tryz.mixed (stops_cons (fun σ w h => by
      obtain ⟨w0_, e0, h⟩ := dP_elim h
      obtain ⟨c_, e1, h⟩ := dI_elim h
      exact (hostlaw_World_Look.L1_sound  w0_ c_ w h).weaken (Sub.cons (Sub.cons (Sub.nil _) e1) e0)) stops_nil) (Eq.mp (hostlaw_World_Look.B0_eq w0 w   R (fun w0_ c_ w => hostlaw_World_Look.L1 w0_ c_ w  R)) h)
theorem hostlaw_World_Look.sound (w0 : Option Addr) (w : World) (R : Bool → World → Prop) (h : hostlaw_World_Look.B0 w0 w R) : hostlaw_World_Look.Call w0 w R := by
  have hc := calls_of_block (args := #[.pointer w0]) Tryz.func14 (body := (Tryz.f14.body.getD .skip)) (by kernel_rfl) (by kernel_rfl) (args_slot _) (hostlaw_World_Look.B0_sound w0 w h)
  exact hc.mono fun e w' he => by
    obtain ⟨v, rfl, hv⟩ := he
    exact hostlaw_World_Look.RV_elim hv
end Go.Proofs.Qxb6500424aGreat
