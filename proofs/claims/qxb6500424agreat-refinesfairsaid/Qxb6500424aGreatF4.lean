import Derived.Test.Qxb6500424aGreatSig
set_option maxRecDepth 100000
set_option linter.unusedVariables false
open Go.Vc
namespace Go.Proofs.Qxb6500424aGreat
def host_Host_Clock.B0 (h0 : Option Addr) (w : World)   (R : Int → World → Prop) : Prop :=
  Pn h0 fun a =>
  LdI .i64 (a.add 1) w fun x6 =>
  R x6 w
theorem host_Host_Clock.B0_eq (h0 : Option Addr) (w : World)   (R : Int → World → Prop)  :
    (
  Pn h0 fun a =>
  LdI .i64 (a.add 1) w fun x6 =>
  R x6 w) = kstep Tryz.prog 7 Tryz.f26.results.toList (Tryz.f26.body.getD .skip) (host_Host_Clock.RV R) (kvc Tryz.prog 7 Tryz.f26.results.toList (Tryz.f26.body.getD .skip) (host_Host_Clock.RV R) [] 2000) [(0, [])] [(0, .pointer h0)] w := by kernel_rfl
theorem host_Host_Clock.B0_sound {R : Int → World → Prop}  (h0 : Option Addr) (w : World) (h : host_Host_Clock.B0 h0 w   R) :
    KW Tryz.prog 26 7 (host_Host_Clock.RV R) ([(0, [])].map (toItem (Tryz.f26.body.getD .skip))) [(0, .pointer h0)] w := by
  exact block_spec Tryz.func26 Tryz.mixed stops_nil (Eq.mp (host_Host_Clock.B0_eq h0 w   R ) h)
theorem host_Host_Clock.sound (h0 : Option Addr) (w : World) (R : Int → World → Prop) (h : host_Host_Clock.B0 h0 w R) : host_Host_Clock.Call h0 w R := by
  have hc := calls_of_block (args := #[.pointer h0]) Tryz.func26 (body := (Tryz.f26.body.getD .skip)) (by kernel_rfl) (by kernel_rfl) (args_slot _) (host_Host_Clock.B0_sound h0 w h)
  exact hc.mono fun e w' he => by
    obtain ⟨v, rfl, hv⟩ := he
    exact host_Host_Clock.RV_elim hv
def host_Host_Lost.B0 (h0 : Option Addr) (w : World)   (R : Int → World → Prop) : Prop :=
  Pn h0 fun a =>
  LdI .i64 (a.add 2) w fun x6 =>
  R x6 w
theorem host_Host_Lost.B0_eq (h0 : Option Addr) (w : World)   (R : Int → World → Prop)  :
    (
  Pn h0 fun a =>
  LdI .i64 (a.add 2) w fun x6 =>
  R x6 w) = kstep Tryz.prog 7 Tryz.f27.results.toList (Tryz.f27.body.getD .skip) (host_Host_Lost.RV R) (kvc Tryz.prog 7 Tryz.f27.results.toList (Tryz.f27.body.getD .skip) (host_Host_Lost.RV R) [] 2000) [(0, [])] [(0, .pointer h0)] w := by kernel_rfl
theorem host_Host_Lost.B0_sound {R : Int → World → Prop}  (h0 : Option Addr) (w : World) (h : host_Host_Lost.B0 h0 w   R) :
    KW Tryz.prog 27 7 (host_Host_Lost.RV R) ([(0, [])].map (toItem (Tryz.f27.body.getD .skip))) [(0, .pointer h0)] w := by
  exact block_spec Tryz.func27 Tryz.mixed stops_nil (Eq.mp (host_Host_Lost.B0_eq h0 w   R ) h)
theorem host_Host_Lost.sound (h0 : Option Addr) (w : World) (R : Int → World → Prop) (h : host_Host_Lost.B0 h0 w R) : host_Host_Lost.Call h0 w R := by
  have hc := calls_of_block (args := #[.pointer h0]) Tryz.func27 (body := (Tryz.f27.body.getD .skip)) (by kernel_rfl) (by kernel_rfl) (args_slot _) (host_Host_Lost.B0_sound h0 w h)
  exact hc.mono fun e w' he => by
    obtain ⟨v, rfl, hv⟩ := he
    exact host_Host_Lost.RV_elim hv
def host_Host_Socks.B0 (h0 : Option Addr) (w : World)   (R : Option Addr → Nat → Nat → World → Prop) : Prop :=
  Pn h0 fun a =>
  LdP (a.add 17) w fun x6 =>
  sock_Table_List.Call x6 w fun r7_b r7_l r7_c w1 =>
  R r7_b r7_l r7_c w1
theorem host_Host_Socks.B0_eq (h0 : Option Addr) (w : World)   (R : Option Addr → Nat → Nat → World → Prop)  :
    (
  Pn h0 fun a =>
  LdP (a.add 17) w fun x6 =>
  sock_Table_List.Call x6 w fun r7_b r7_l r7_c w1 =>
  R r7_b r7_l r7_c w1) = kstep Tryz.prog 8 Tryz.f28.results.toList (Tryz.f28.body.getD .skip) (host_Host_Socks.RV R) (kvc Tryz.prog 8 Tryz.f28.results.toList (Tryz.f28.body.getD .skip) (host_Host_Socks.RV R) [] 2000) [(0, [])] [(0, .pointer h0)] w := by kernel_rfl
theorem host_Host_Socks.B0_sound {R : Option Addr → Nat → Nat → World → Prop}  (h0 : Option Addr) (w : World) (h : host_Host_Socks.B0 h0 w   R) :
    KW Tryz.prog 28 8 (host_Host_Socks.RV R) ([(0, [])].map (toItem (Tryz.f28.body.getD .skip))) [(0, .pointer h0)] w := by
  exact block_spec Tryz.func28 Tryz.mixed stops_nil (Eq.mp (host_Host_Socks.B0_eq h0 w   R ) h)
theorem host_Host_Socks.sound (h0 : Option Addr) (w : World) (R : Option Addr → Nat → Nat → World → Prop) (h : host_Host_Socks.B0 h0 w R) : host_Host_Socks.Call h0 w R := by
  have hc := calls_of_block (args := #[.pointer h0]) Tryz.func28 (body := (Tryz.f28.body.getD .skip)) (by kernel_rfl) (by kernel_rfl) (args_slot _) (host_Host_Socks.B0_sound h0 w h)
  exact hc.mono fun e w' he => by
    obtain ⟨v, rfl, hv⟩ := he
    exact host_Host_Socks.RV_elim hv
def hostlaw_CopyInts.B0 (l_b : Option Addr) (l_l l_c : Nat) (w : World)   (R : Option Addr → Nat → Nat → World → Prop) : Prop :=
  Make 3 (.int .i64 (0 : Int)) 1 8 ((l_l : Nat) : Int) ((l_l : Nat) : Int) w fun b6 w1 =>
  Copy 1 (some ⟨b6, 0, none⟩) (((l_l : Nat) : Int).toNat) l_b l_l w1 fun n9 w2 =>
  R (some ⟨b6, 0, none⟩) (((l_l : Nat) : Int).toNat) (((l_l : Nat) : Int).toNat) w2
theorem hostlaw_CopyInts.B0_eq (l_b : Option Addr) (l_l l_c : Nat) (w : World)   (R : Option Addr → Nat → Nat → World → Prop)  :
    (
  Make 3 (.int .i64 (0 : Int)) 1 8 ((l_l : Nat) : Int) ((l_l : Nat) : Int) w fun b6 w1 =>
  Copy 1 (some ⟨b6, 0, none⟩) (((l_l : Nat) : Int).toNat) l_b l_l w1 fun n9 w2 =>
  R (some ⟨b6, 0, none⟩) (((l_l : Nat) : Int).toNat) (((l_l : Nat) : Int).toNat) w2) = kstep Tryz.prog 11 Tryz.f29.results.toList (Tryz.f29.body.getD .skip) (hostlaw_CopyInts.RV R) (kvc Tryz.prog 11 Tryz.f29.results.toList (Tryz.f29.body.getD .skip) (hostlaw_CopyInts.RV R) [] 2000) [(0, [])] [(0, .slice l_b l_l l_c)] w := by kernel_rfl
theorem hostlaw_CopyInts.B0_sound {R : Option Addr → Nat → Nat → World → Prop}  (l_b : Option Addr) (l_l l_c : Nat) (w : World) (h : hostlaw_CopyInts.B0 l_b l_l l_c w   R) :
    KW Tryz.prog 29 11 (hostlaw_CopyInts.RV R) ([(0, [])].map (toItem (Tryz.f29.body.getD .skip))) [(0, .slice l_b l_l l_c)] w := by
  exact block_spec Tryz.func29 Tryz.mixed stops_nil (Eq.mp (hostlaw_CopyInts.B0_eq l_b l_l l_c w   R ) h)
theorem hostlaw_CopyInts.sound (l_b : Option Addr) (l_l l_c : Nat) (w : World) (R : Option Addr → Nat → Nat → World → Prop) (h : hostlaw_CopyInts.B0 l_b l_l l_c w R) : hostlaw_CopyInts.Call l_b l_l l_c w R := by
  have hc := calls_of_block (args := #[.slice l_b l_l l_c]) Tryz.func29 (body := (Tryz.f29.body.getD .skip)) (by kernel_rfl) (by kernel_rfl) (args_slot _) (hostlaw_CopyInts.B0_sound l_b l_l l_c w h)
  exact hc.mono fun e w' he => by
    obtain ⟨v, rfl, hv⟩ := he
    exact hostlaw_CopyInts.RV_elim hv
def hostlaw_World_OwnInts.L1b (w0 l_b : Option Addr) (l_l l_c : Nat) (j i : Int) (w : World)  (N1 : Option Addr → Option Addr → Nat → Nat → Int → Int → World → Prop) (R : World → Prop) : Prop :=
  Bm (decide (i < ((l_l : Nat) : Int))) (
    Pn l_b fun a =>
    (0 ≤ i ∧ i < ((l_l : Nat) : Int)) ∧
    Sts [.int .i64 (IntKind.i64.wrap ((-1 : Int) - j))] (Addr.add a (i.toNat * 1)) 0 w fun w1 =>
    N1 w0 l_b l_l l_c j (IntKind.i64.wrap (i + (1 : Int))) w1) (
    Pn w0 fun a_1 =>
    LdL (a_1.add 47) w fun x33_b x33_l x33_c =>
    New (.cells #[.slice l_b l_l l_c] 46) w fun b35 w2 =>
    Append 46 (.slice none 0 0) 1 24 x33_b x33_l x33_c (some ⟨b35, 0, none⟩) 1 w2 fun b36 c36 w3 =>
    Pn w0 fun a_2 =>
    Sts [.slice b36 (x33_l + 1) c36] (a_2.add 47) 0 w3 fun w4 =>
    R  w4)
theorem hostlaw_World_OwnInts.L1b_eq (w0 l_b : Option Addr) (l_l l_c : Nat) (j i : Int) (w : World)  (N1 : Option Addr → Option Addr → Nat → Nat → Int → Int → World → Prop) (R : World → Prop)  :
    (
  Bm (decide (i < ((l_l : Nat) : Int))) (
    Pn l_b fun a =>
    (0 ≤ i ∧ i < ((l_l : Nat) : Int)) ∧
    Sts [.int .i64 (IntKind.i64.wrap ((-1 : Int) - j))] (Addr.add a (i.toNat * 1)) 0 w fun w1 =>
    N1 w0 l_b l_l l_c j (IntKind.i64.wrap (i + (1 : Int))) w1) (
    Pn w0 fun a_1 =>
    LdL (a_1.add 47) w fun x33_b x33_l x33_c =>
    New (.cells #[.slice l_b l_l l_c] 46) w fun b35 w2 =>
    Append 46 (.slice none 0 0) 1 24 x33_b x33_l x33_c (some ⟨b35, 0, none⟩) 1 w2 fun b36 c36 w3 =>
    Pn w0 fun a_2 =>
    Sts [.slice b36 (x33_l + 1) c36] (a_2.add 47) 0 w3 fun w4 =>
    R  w4)) = kstep Tryz.prog 39 Tryz.f30.results.toList (Tryz.f30.body.getD .skip) (hostlaw_World_OwnInts.RV R) (kvc Tryz.prog 39 Tryz.f30.results.toList (Tryz.f30.body.getD .skip) (hostlaw_World_OwnInts.RV R) [([(0, [1, 1, 1, 0, 1, 0, 0]), (2, [1, 1, 1, 0, 1, 0, 0]), (1, [0]), (0, [1, 1, 1, 1])], fun σ w => dP (slotOf σ 0) fun w0_ => dL (slotOf σ 1) fun l_b_ l_l_ l_c_ => dI .i64 (slotOf σ 4) fun j_ => dI .i64 (slotOf σ 5) fun i_ => N1 w0_ l_b_ l_l_ l_c_ j_ i_ w)] 2000) [(0, [1, 1, 1, 0, 1, 0, 0]), (2, [1, 1, 1, 0, 1, 0, 0]), (1, [0]), (0, [1, 1, 1, 1])] [(0, .pointer w0), (1, .slice l_b l_l l_c), (4, .int .i64 j), (5, .int .i64 i)] w := by kernel_rfl
theorem hostlaw_World_OwnInts.L1b_sound {R : World → Prop} {N1 : Option Addr → Option Addr → Nat → Nat → Int → Int → World → Prop} (hN1 : ∀ w0 l_b l_l l_c j i w, N1 w0 l_b l_l l_c j i w → KW Tryz.prog 30 39 (hostlaw_World_OwnInts.RV R) ([(0, [1, 1, 1, 0, 1, 0, 0]), (2, [1, 1, 1, 0, 1, 0, 0]), (1, [0]), (0, [1, 1, 1, 1])].map (toItem (Tryz.f30.body.getD .skip))) [(0, .pointer w0), (1, .slice l_b l_l l_c), (4, .int .i64 j), (5, .int .i64 i)] w) (w0 l_b : Option Addr) (l_l l_c : Nat) (j i : Int) (w : World) (h : hostlaw_World_OwnInts.L1b w0 l_b l_l l_c j i w  N1 R) :
    KW Tryz.prog 30 39 (hostlaw_World_OwnInts.RV R) ([(0, [1, 1, 1, 0, 1, 0, 0]), (2, [1, 1, 1, 0, 1, 0, 0]), (1, [0]), (0, [1, 1, 1, 1])].map (toItem (Tryz.f30.body.getD .skip))) [(0, .pointer w0), (1, .slice l_b l_l l_c), (4, .int .i64 j), (5, .int .i64 i)] w := by
  exact block_spec Tryz.func30 Tryz.mixed (stops_cons (fun σ w h => by
      obtain ⟨w0_, e0, h⟩ := dP_elim h
      obtain ⟨l_b_, l_l_, l_c_, e1, h⟩ := dL_elim h
      obtain ⟨j_, e2, h⟩ := dI_elim h
      obtain ⟨i_, e3, h⟩ := dI_elim h
      exact (hN1 w0_ l_b_ l_l_ l_c_ j_ i_ w h).weaken (Sub.cons (Sub.cons (Sub.cons (Sub.cons (Sub.nil _) e3) e2) e1) e0)) stops_nil) (Eq.mp (hostlaw_World_OwnInts.L1b_eq w0 l_b l_l l_c j i w  N1 R ) h)
def hostlaw_World_OwnInts.L1 (w0 l_b : Option Addr) (l_l l_c : Nat) (j i : Int) (w : World)  (R : World → Prop) : Prop :=
  ∃ (I : Nat → Option Addr → Option Addr → Nat → Nat → Int → Int → World → Prop) (m : Nat), I m w0 l_b l_l l_c j i w ∧ ∀ m w0 l_b l_l l_c j i w, I m w0 l_b l_l l_c j i w → hostlaw_World_OwnInts.L1b w0 l_b l_l l_c j i w  (fun w0' l_b' l_l' l_c' j' i' w' => ∃ m', m' < m ∧ I m' w0' l_b' l_l' l_c' j' i' w') R
theorem hostlaw_World_OwnInts.L1_sound {R : World → Prop}  (w0 l_b : Option Addr) (l_l l_c : Nat) (j i : Int) (w : World) (h : hostlaw_World_OwnInts.L1 w0 l_b l_l l_c j i w  R) :
    KW Tryz.prog 30 39 (hostlaw_World_OwnInts.RV R) ([(0, [1, 1, 1, 0, 1, 0, 0]), (2, [1, 1, 1, 0, 1, 0, 0]), (1, [0]), (0, [1, 1, 1, 1])].map (toItem (Tryz.f30.body.getD .skip))) [(0, .pointer w0), (1, .slice l_b l_l l_c), (4, .int .i64 j), (5, .int .i64 i)] w := by
  obtain ⟨I, m, hBase, hr⟩ := h
  refine KW.loop (fun m σ w => ∃ (w0 l_b : Option Addr) (l_l l_c : Nat) (j i : Int), σ = [(0, .pointer w0), (1, .slice l_b l_l l_c), (4, .int .i64 j), (5, .int .i64 i)] ∧ I m w0 l_b l_l l_c j i w) ?_ m _ w ⟨w0, l_b, l_l, l_c, j, i, rfl, hBase⟩
  rintro m ih σ w ⟨w0, l_b, l_l, l_c, j, i, rfl, hI⟩
  exact hostlaw_World_OwnInts.L1b_sound  (N1 := fun w0' l_b' l_l' l_c' j' i' w' => ∃ m', m' < m ∧ I m' w0' l_b' l_l' l_c' j' i' w') (fun w0' l_b' l_l' l_c' j' i' w' hx => by obtain ⟨m', hlt, hI'⟩ := hx; exact ih m' hlt _ w' ⟨w0', l_b', l_l', l_c', j', i', rfl, hI'⟩) w0 l_b l_l l_c j i w (hr m w0 l_b l_l l_c j i w hI)
def hostlaw_World_OwnInts.B0 (w0 l_b : Option Addr) (l_l l_c : Nat) (w : World)   (R : World → Prop) : Prop :=
  (0 ≤ ((l_c : Nat) : Int) ∧ ((l_c : Nat) : Int) ≤ ((l_c : Nat) : Int)) ∧
  Bm (((((l_c : Nat) : Int).toNat - ((0 : Nat) : Int).toNat : Nat) : Int) == (0 : Int)) (
    R  w) (
    Pn w0 fun a =>
    LdL (a.add 47) w fun x16_b x16_l x16_c =>
    hostlaw_World_OwnInts.L1 w0 (slBase l_b ((0 : Nat) : Int) ((l_c : Nat) : Int) 1) (((l_c : Nat) : Int).toNat - ((0 : Nat) : Int).toNat) (((l_c : Nat) : Int).toNat - ((0 : Nat) : Int).toNat) ((x16_l : Nat) : Int) (0 : Int) w  R)
theorem hostlaw_World_OwnInts.B0_eq (w0 l_b : Option Addr) (l_l l_c : Nat) (w : World)   (R : World → Prop) (sL1 : Option Addr → Option Addr → Nat → Nat → Int → Int → World → Prop) :
    (
  (0 ≤ ((l_c : Nat) : Int) ∧ ((l_c : Nat) : Int) ≤ ((l_c : Nat) : Int)) ∧
  Bm (((((l_c : Nat) : Int).toNat - ((0 : Nat) : Int).toNat : Nat) : Int) == (0 : Int)) (
    R  w) (
    Pn w0 fun a =>
    LdL (a.add 47) w fun x16_b x16_l x16_c =>
    sL1 w0 (slBase l_b ((0 : Nat) : Int) ((l_c : Nat) : Int) 1) (((l_c : Nat) : Int).toNat - ((0 : Nat) : Int).toNat) (((l_c : Nat) : Int).toNat - ((0 : Nat) : Int).toNat) ((x16_l : Nat) : Int) (0 : Int) w)) = kstep Tryz.prog 39 Tryz.f30.results.toList (Tryz.f30.body.getD .skip) (hostlaw_World_OwnInts.RV R) (kvc Tryz.prog 39 Tryz.f30.results.toList (Tryz.f30.body.getD .skip) (hostlaw_World_OwnInts.RV R) [([(0, [1, 1, 1, 0, 1, 0, 0]), (2, [1, 1, 1, 0, 1, 0, 0]), (1, [0]), (0, [1, 1, 1, 1])], fun σ w => dP (slotOf σ 0) fun w0_ => dL (slotOf σ 1) fun l_b_ l_l_ l_c_ => dI .i64 (slotOf σ 4) fun j_ => dI .i64 (slotOf σ 5) fun i_ => sL1 w0_ l_b_ l_l_ l_c_ j_ i_ w)] 2000) [(0, [])] [(0, .pointer w0), (1, .slice l_b l_l l_c)] w := by kernel_rfl
theorem hostlaw_World_OwnInts.B0_sound {R : World → Prop}  (w0 l_b : Option Addr) (l_l l_c : Nat) (w : World) (h : hostlaw_World_OwnInts.B0 w0 l_b l_l l_c w   R) :
    KW Tryz.prog 30 39 (hostlaw_World_OwnInts.RV R) ([(0, [])].map (toItem (Tryz.f30.body.getD .skip))) [(0, .pointer w0), (1, .slice l_b l_l l_c)] w := by
  exact block_spec Tryz.func30 Tryz.mixed (stops_cons (fun σ w h => by
      obtain ⟨w0_, e0, h⟩ := dP_elim h
      obtain ⟨l_b_, l_l_, l_c_, e1, h⟩ := dL_elim h
      obtain ⟨j_, e2, h⟩ := dI_elim h
      obtain ⟨i_, e3, h⟩ := dI_elim h
      exact (hostlaw_World_OwnInts.L1_sound  w0_ l_b_ l_l_ l_c_ j_ i_ w h).weaken (Sub.cons (Sub.cons (Sub.cons (Sub.cons (Sub.nil _) e3) e2) e1) e0)) stops_nil) (Eq.mp (hostlaw_World_OwnInts.B0_eq w0 l_b l_l l_c w   R (fun w0_ l_b_ l_l_ l_c_ j_ i_ w => hostlaw_World_OwnInts.L1 w0_ l_b_ l_l_ l_c_ j_ i_ w  R)) h)
theorem hostlaw_World_OwnInts.sound (w0 l_b : Option Addr) (l_l l_c : Nat) (w : World) (R : World → Prop) (h : hostlaw_World_OwnInts.B0 w0 l_b l_l l_c w R) : hostlaw_World_OwnInts.Call w0 l_b l_l l_c w R := by
  have hc := calls_of_block (args := #[.pointer w0, .slice l_b l_l l_c]) Tryz.func30 (body := (Tryz.f30.body.getD .skip)) (by kernel_rfl) (by kernel_rfl) (args_slot _) (hostlaw_World_OwnInts.B0_sound w0 l_b l_l l_c w h)
  exact hc.mono fun e w' he => by
    obtain ⟨v, rfl, hv⟩ := he
    exact hostlaw_World_OwnInts.RV_elim hv
def hostlaw_has.L1b (list_b : Option Addr) (list_l list_c : Nat) (x i : Int) (w : World)  (N1 : Option Addr → Nat → Nat → Int → Int → World → Prop) (R : Bool → World → Prop) : Prop :=
  Bm (decide (i < ((list_l : Nat) : Int))) (
    Pn list_b fun a =>
    (0 ≤ i ∧ i < ((list_l : Nat) : Int)) ∧
    LdI .i64 (Addr.add a (i.toNat * 1)) w fun x15 =>
    Bm (x15 == x) (
      R true w) (
      N1 list_b list_l list_c x (IntKind.i64.wrap (i + (1 : Int))) w)) (
    R false w)
theorem hostlaw_has.L1b_eq (list_b : Option Addr) (list_l list_c : Nat) (x i : Int) (w : World)  (N1 : Option Addr → Nat → Nat → Int → Int → World → Prop) (R : Bool → World → Prop)  :
    (
  Bm (decide (i < ((list_l : Nat) : Int))) (
    Pn list_b fun a =>
    (0 ≤ i ∧ i < ((list_l : Nat) : Int)) ∧
    LdI .i64 (Addr.add a (i.toNat * 1)) w fun x15 =>
    Bm (x15 == x) (
      R true w) (
      N1 list_b list_l list_c x (IntKind.i64.wrap (i + (1 : Int))) w)) (
    R false w)) = kstep Tryz.prog 18 Tryz.f31.results.toList (Tryz.f31.body.getD .skip) (hostlaw_has.RV R) (kvc Tryz.prog 18 Tryz.f31.results.toList (Tryz.f31.body.getD .skip) (hostlaw_has.RV R) [([(0, [1, 0, 1, 0, 0]), (2, [1, 0, 1, 0, 0]), (1, [0]), (0, [1, 1])], fun σ w => dL (slotOf σ 0) fun list_b_ list_l_ list_c_ => dI .i64 (slotOf σ 1) fun x_ => dI .i64 (slotOf σ 5) fun i_ => N1 list_b_ list_l_ list_c_ x_ i_ w)] 2000) [(0, [1, 0, 1, 0, 0]), (2, [1, 0, 1, 0, 0]), (1, [0]), (0, [1, 1])] [(0, .slice list_b list_l list_c), (1, .int .i64 x), (5, .int .i64 i)] w := by kernel_rfl
theorem hostlaw_has.L1b_sound {R : Bool → World → Prop} {N1 : Option Addr → Nat → Nat → Int → Int → World → Prop} (hN1 : ∀ list_b list_l list_c x i w, N1 list_b list_l list_c x i w → KW Tryz.prog 31 18 (hostlaw_has.RV R) ([(0, [1, 0, 1, 0, 0]), (2, [1, 0, 1, 0, 0]), (1, [0]), (0, [1, 1])].map (toItem (Tryz.f31.body.getD .skip))) [(0, .slice list_b list_l list_c), (1, .int .i64 x), (5, .int .i64 i)] w) (list_b : Option Addr) (list_l list_c : Nat) (x i : Int) (w : World) (h : hostlaw_has.L1b list_b list_l list_c x i w  N1 R) :
    KW Tryz.prog 31 18 (hostlaw_has.RV R) ([(0, [1, 0, 1, 0, 0]), (2, [1, 0, 1, 0, 0]), (1, [0]), (0, [1, 1])].map (toItem (Tryz.f31.body.getD .skip))) [(0, .slice list_b list_l list_c), (1, .int .i64 x), (5, .int .i64 i)] w := by
  exact block_spec Tryz.func31 Tryz.mixed (stops_cons (fun σ w h => by
      obtain ⟨list_b_, list_l_, list_c_, e0, h⟩ := dL_elim h
      obtain ⟨x_, e1, h⟩ := dI_elim h
      obtain ⟨i_, e2, h⟩ := dI_elim h
      exact (hN1 list_b_ list_l_ list_c_ x_ i_ w h).weaken (Sub.cons (Sub.cons (Sub.cons (Sub.nil _) e2) e1) e0)) stops_nil) (Eq.mp (hostlaw_has.L1b_eq list_b list_l list_c x i w  N1 R ) h)
def hostlaw_has.L1 (list_b : Option Addr) (list_l list_c : Nat) (x i : Int) (w : World)  (R : Bool → World → Prop) : Prop :=
  ∃ (I : Nat → Option Addr → Nat → Nat → Int → Int → World → Prop) (m : Nat), I m list_b list_l list_c x i w ∧ ∀ m list_b list_l list_c x i w, I m list_b list_l list_c x i w → hostlaw_has.L1b list_b list_l list_c x i w  (fun list_b' list_l' list_c' x' i' w' => ∃ m', m' < m ∧ I m' list_b' list_l' list_c' x' i' w') R
theorem hostlaw_has.L1_sound {R : Bool → World → Prop}  (list_b : Option Addr) (list_l list_c : Nat) (x i : Int) (w : World) (h : hostlaw_has.L1 list_b list_l list_c x i w  R) :
    KW Tryz.prog 31 18 (hostlaw_has.RV R) ([(0, [1, 0, 1, 0, 0]), (2, [1, 0, 1, 0, 0]), (1, [0]), (0, [1, 1])].map (toItem (Tryz.f31.body.getD .skip))) [(0, .slice list_b list_l list_c), (1, .int .i64 x), (5, .int .i64 i)] w := by
  obtain ⟨I, m, hBase, hr⟩ := h
  refine KW.loop (fun m σ w => ∃ (list_b : Option Addr) (list_l list_c : Nat) (x i : Int), σ = [(0, .slice list_b list_l list_c), (1, .int .i64 x), (5, .int .i64 i)] ∧ I m list_b list_l list_c x i w) ?_ m _ w ⟨list_b, list_l, list_c, x, i, rfl, hBase⟩
  rintro m ih σ w ⟨list_b, list_l, list_c, x, i, rfl, hI⟩
  exact hostlaw_has.L1b_sound  (N1 := fun list_b' list_l' list_c' x' i' w' => ∃ m', m' < m ∧ I m' list_b' list_l' list_c' x' i' w') (fun list_b' list_l' list_c' x' i' w' hx => by obtain ⟨m', hlt, hI'⟩ := hx; exact ih m' hlt _ w' ⟨list_b', list_l', list_c', x', i', rfl, hI'⟩) list_b list_l list_c x i w (hr m list_b list_l list_c x i w hI)
def hostlaw_has.B0 (list_b : Option Addr) (list_l list_c : Nat) (x : Int) (w : World)   (R : Bool → World → Prop) : Prop :=
  hostlaw_has.L1 list_b list_l list_c x (0 : Int) w  R
theorem hostlaw_has.B0_eq (list_b : Option Addr) (list_l list_c : Nat) (x : Int) (w : World)   (R : Bool → World → Prop) (sL1 : Option Addr → Nat → Nat → Int → Int → World → Prop) :
    (
  sL1 list_b list_l list_c x (0 : Int) w) = kstep Tryz.prog 18 Tryz.f31.results.toList (Tryz.f31.body.getD .skip) (hostlaw_has.RV R) (kvc Tryz.prog 18 Tryz.f31.results.toList (Tryz.f31.body.getD .skip) (hostlaw_has.RV R) [([(0, [1, 0, 1, 0, 0]), (2, [1, 0, 1, 0, 0]), (1, [0]), (0, [1, 1])], fun σ w => dL (slotOf σ 0) fun list_b_ list_l_ list_c_ => dI .i64 (slotOf σ 1) fun x_ => dI .i64 (slotOf σ 5) fun i_ => sL1 list_b_ list_l_ list_c_ x_ i_ w)] 2000) [(0, [])] [(0, .slice list_b list_l list_c), (1, .int .i64 x)] w := by kernel_rfl
theorem hostlaw_has.B0_sound {R : Bool → World → Prop}  (list_b : Option Addr) (list_l list_c : Nat) (x : Int) (w : World) (h : hostlaw_has.B0 list_b list_l list_c x w   R) :
    KW Tryz.prog 31 18 (hostlaw_has.RV R) ([(0, [])].map (toItem (Tryz.f31.body.getD .skip))) [(0, .slice list_b list_l list_c), (1, .int .i64 x)] w := by
  exact block_spec Tryz.func31 Tryz.mixed (stops_cons (fun σ w h => by
      obtain ⟨list_b_, list_l_, list_c_, e0, h⟩ := dL_elim h
      obtain ⟨x_, e1, h⟩ := dI_elim h
      obtain ⟨i_, e2, h⟩ := dI_elim h
      exact (hostlaw_has.L1_sound  list_b_ list_l_ list_c_ x_ i_ w h).weaken (Sub.cons (Sub.cons (Sub.cons (Sub.nil _) e2) e1) e0)) stops_nil) (Eq.mp (hostlaw_has.B0_eq list_b list_l list_c x w   R (fun list_b_ list_l_ list_c_ x_ i_ w => hostlaw_has.L1 list_b_ list_l_ list_c_ x_ i_ w  R)) h)
theorem hostlaw_has.sound (list_b : Option Addr) (list_l list_c : Nat) (x : Int) (w : World) (R : Bool → World → Prop) (h : hostlaw_has.B0 list_b list_l list_c x w R) : hostlaw_has.Call list_b list_l list_c x w R := by
  have hc := calls_of_block (args := #[.slice list_b list_l list_c, .int .i64 x]) Tryz.func31 (body := (Tryz.f31.body.getD .skip)) (by kernel_rfl) (by kernel_rfl) (args_slot _) (hostlaw_has.B0_sound list_b list_l list_c x w h)
  exact hc.mono fun e w' he => by
    obtain ⟨v, rfl, hv⟩ := he
    exact hostlaw_has.RV_elim hv
def host_Host_Info.B1 (t4 s : Nat) (w : World)   (R : Int → Int → Int → Int → Int → Int → Int → Bool → Option Addr → Int → World → Prop) : Prop :=
  LdI .i64 ⟨s, 0, none⟩ w fun x38_0 =>
  LdI .i64 ⟨s, 1, none⟩ w fun x38_1 =>
  LdI .i64 ⟨s, 2, none⟩ w fun x38_2 =>
  LdI .i64 ⟨s, 3, none⟩ w fun x38_3 =>
  LdI .i64 ⟨s, 4, none⟩ w fun x38_4 =>
  LdI .i64 ⟨s, 5, none⟩ w fun x38_5 =>
  LdI .i64 ⟨s, 6, none⟩ w fun x38_6 =>
  LdB ⟨s, 7, none⟩ w fun x38_7 =>
  LdP ⟨s, 8, none⟩ w fun x38_8 =>
  Sts [.int .i64 x38_0, .int .i64 x38_1, .int .i64 x38_2, .int .i64 x38_3, .int .i64 x38_4, .int .i64 x38_5, .int .i64 x38_6, .bool x38_7, .pointer x38_8] ⟨t4, 0, none⟩ 0 w fun w1 =>
  LdI .i64 ⟨t4, 0, none⟩ w1 fun r_0 =>
  LdI .i64 ⟨t4, 1, none⟩ w1 fun r_1 =>
  LdI .i64 ⟨t4, 2, none⟩ w1 fun r_2 =>
  LdI .i64 ⟨t4, 3, none⟩ w1 fun r_3 =>
  LdI .i64 ⟨t4, 4, none⟩ w1 fun r_4 =>
  LdI .i64 ⟨t4, 5, none⟩ w1 fun r_5 =>
  LdI .i64 ⟨t4, 6, none⟩ w1 fun r_6 =>
  LdB ⟨t4, 7, none⟩ w1 fun r_7 =>
  LdP ⟨t4, 8, none⟩ w1 fun r_8 =>
  R r_0 r_1 r_2 r_3 r_4 r_5 r_6 r_7 r_8 (0 : Int) w1
theorem host_Host_Info.B1_eq (t4 s : Nat) (w : World)   (R : Int → Int → Int → Int → Int → Int → Int → Bool → Option Addr → Int → World → Prop)  :
    (
  LdI .i64 ⟨s, 0, none⟩ w fun x38_0 =>
  LdI .i64 ⟨s, 1, none⟩ w fun x38_1 =>
  LdI .i64 ⟨s, 2, none⟩ w fun x38_2 =>
  LdI .i64 ⟨s, 3, none⟩ w fun x38_3 =>
  LdI .i64 ⟨s, 4, none⟩ w fun x38_4 =>
  LdI .i64 ⟨s, 5, none⟩ w fun x38_5 =>
  LdI .i64 ⟨s, 6, none⟩ w fun x38_6 =>
  LdB ⟨s, 7, none⟩ w fun x38_7 =>
  LdP ⟨s, 8, none⟩ w fun x38_8 =>
  Sts [.int .i64 x38_0, .int .i64 x38_1, .int .i64 x38_2, .int .i64 x38_3, .int .i64 x38_4, .int .i64 x38_5, .int .i64 x38_6, .bool x38_7, .pointer x38_8] ⟨t4, 0, none⟩ 0 w fun w1 =>
  LdI .i64 ⟨t4, 0, none⟩ w1 fun r_0 =>
  LdI .i64 ⟨t4, 1, none⟩ w1 fun r_1 =>
  LdI .i64 ⟨t4, 2, none⟩ w1 fun r_2 =>
  LdI .i64 ⟨t4, 3, none⟩ w1 fun r_3 =>
  LdI .i64 ⟨t4, 4, none⟩ w1 fun r_4 =>
  LdI .i64 ⟨t4, 5, none⟩ w1 fun r_5 =>
  LdI .i64 ⟨t4, 6, none⟩ w1 fun r_6 =>
  LdB ⟨t4, 7, none⟩ w1 fun r_7 =>
  LdP ⟨t4, 8, none⟩ w1 fun r_8 =>
  R r_0 r_1 r_2 r_3 r_4 r_5 r_6 r_7 r_8 (0 : Int) w1) = kstep Tryz.prog 39 Tryz.f32.results.toList (Tryz.f32.body.getD .skip) (host_Host_Info.RV R) (kvc Tryz.prog 39 Tryz.f32.results.toList (Tryz.f32.body.getD .skip) (host_Host_Info.RV R) [] 2000) [(0, [1, 1, 1, 1, 1])] [(4, .pointer (some ⟨t4, 0, none⟩)), (8, .pointer (some ⟨s, 0, none⟩))] w := by kernel_rfl
theorem host_Host_Info.B1_sound {R : Int → Int → Int → Int → Int → Int → Int → Bool → Option Addr → Int → World → Prop}  (t4 s : Nat) (w : World) (h : host_Host_Info.B1 t4 s w   R) :
    KW Tryz.prog 32 39 (host_Host_Info.RV R) ([(0, [1, 1, 1, 1, 1])].map (toItem (Tryz.f32.body.getD .skip))) [(4, .pointer (some ⟨t4, 0, none⟩)), (8, .pointer (some ⟨s, 0, none⟩))] w := by
  exact block_spec Tryz.func32 Tryz.mixed stops_nil (Eq.mp (host_Host_Info.B1_eq t4 s w   R ) h)
def host_Host_Info.B0 (h0 : Option Addr) (sd : Int) (w : World)   (R : Int → Int → Int → Int → Int → Int → Int → Bool → Option Addr → Int → World → Prop) : Prop :=
  New (.cells #[.int .i64 (0 : Int), .int .i64 (0 : Int), .int .i64 (0 : Int), .int .i64 (0 : Int), .int .i64 (0 : Int), .int .i64 (0 : Int), .int .i64 (0 : Int), .bool false, .pointer none] 69) w fun b4 w1 =>
  Pn h0 fun a =>
  LdP (a.add 17) w1 fun x13 =>
  sock_Table_Get.Call x13 sd w1 fun r15_0_0 r15_0_1 r15_0_2 r15_0_3 r15_0_4 r15_0_5 r15_0_6 r15_0_7 r15_1 w2 =>
  New (.cells #[.int .i64 (0 : Int), .int .i64 (0 : Int), .int .i64 (0 : Int), .int .i64 (0 : Int), .int .i64 (0 : Int), .int .i64 (0 : Int), .int .i64 (0 : Int), .bool false] 66) w2 fun en_ w3 =>
  Sts [.int .i64 r15_0_0, .int .i64 r15_0_1, .int .i64 r15_0_2, .int .i64 r15_0_3, .int .i64 r15_0_4, .int .i64 r15_0_5, .int .i64 r15_0_6, .bool r15_0_7] ⟨en_, 0, none⟩ 0 w3 fun w4 =>
  Bm (r15_1 != (0 : Int)) (
    Sts [.int .i64 (0 : Int), .int .i64 (0 : Int), .int .i64 (0 : Int), .int .i64 (0 : Int), .int .i64 (0 : Int), .int .i64 (0 : Int), .int .i64 (0 : Int), .bool false, .pointer none] ⟨b4, 0, none⟩ 0 w4 fun w5 =>
    LdI .i64 ⟨b4, 0, none⟩ w5 fun r_0 =>
    LdI .i64 ⟨b4, 1, none⟩ w5 fun r_1 =>
    LdI .i64 ⟨b4, 2, none⟩ w5 fun r_2 =>
    LdI .i64 ⟨b4, 3, none⟩ w5 fun r_3 =>
    LdI .i64 ⟨b4, 4, none⟩ w5 fun r_4 =>
    LdI .i64 ⟨b4, 5, none⟩ w5 fun r_5 =>
    LdI .i64 ⟨b4, 6, none⟩ w5 fun r_6 =>
    LdB ⟨b4, 7, none⟩ w5 fun r_7 =>
    LdP ⟨b4, 8, none⟩ w5 fun r_8 =>
    R r_0 r_1 r_2 r_3 r_4 r_5 r_6 r_7 r_8 (21 : Int) w5) (
    LdI .i64 ⟨en_, 0, none⟩ w4 fun x21_0 =>
    LdI .i64 ⟨en_, 1, none⟩ w4 fun x21_1 =>
    LdI .i64 ⟨en_, 2, none⟩ w4 fun x21_2 =>
    LdI .i64 ⟨en_, 3, none⟩ w4 fun x21_3 =>
    LdI .i64 ⟨en_, 4, none⟩ w4 fun x21_4 =>
    LdI .i64 ⟨en_, 5, none⟩ w4 fun x21_5 =>
    LdI .i64 ⟨en_, 6, none⟩ w4 fun x21_6 =>
    LdB ⟨en_, 7, none⟩ w4 fun x21_7 =>
    New (.cells #[.int .i64 (0 : Int), .int .i64 (0 : Int), .int .i64 (0 : Int), .int .i64 (0 : Int), .int .i64 (0 : Int), .int .i64 (0 : Int), .int .i64 (0 : Int), .bool false, .pointer none] 69) w4 fun s_ w6 =>
    Sts [.int .i64 x21_0, .int .i64 x21_1, .int .i64 x21_2, .int .i64 x21_3, .int .i64 x21_4, .int .i64 x21_5, .int .i64 x21_6, .bool x21_7, .pointer none] ⟨s_, 0, none⟩ 0 w6 fun w7 =>
    LdI .i64 ⟨en_, 1, none⟩ w7 fun x24 =>
    Bm (x24 == (2 : Int)) (
      LdI .i64 ⟨en_, 5, none⟩ w7.drew fun x28 =>
      Pn h0 fun a_1 =>
      (0 ≤ x28 ∧ x28 < ((4 : Nat) : Int)) ∧
      LdP (Addr.add (a_1.add 13) (x28.toNat * 1)) w7.drew fun x32 =>
      conn_Conn_Info.Call x32 w7.drew fun r33 w8 =>
      Sts [.pointer r33] ⟨s_, 8, none⟩ 0 w8 fun w9 =>
      host_Host_Info.B1 b4 s_ w9  R) (
      New (.cells #[.int .i64 (0 : Int), .int .i64 (0 : Int), .bool false, .bool false, .bool false, .bool false, .int .i64 (0 : Int), .int .i64 (0 : Int), .int .i64 (0 : Int), .int .i64 (0 : Int), .int .i64 (0 : Int), .int .i64 (0 : Int), .int .i64 (0 : Int), .int .i64 (0 : Int), .int .i64 (0 : Int), .int .i64 (0 : Int), .int .i64 (0 : Int), .int .i64 (0 : Int)] 95) w7 fun b36 w10 =>
      Sts [.pointer (some ⟨b36, 0, none⟩)] ⟨s_, 8, none⟩ 0 w10 fun w11 =>
      host_Host_Info.B1 b4 s_ w11  R))
theorem host_Host_Info.B0_eq (h0 : Option Addr) (sd : Int) (w : World)   (R : Int → Int → Int → Int → Int → Int → Int → Bool → Option Addr → Int → World → Prop) (sB1 : Nat → Nat → World → Prop) :
    (
  New (.cells #[.int .i64 (0 : Int), .int .i64 (0 : Int), .int .i64 (0 : Int), .int .i64 (0 : Int), .int .i64 (0 : Int), .int .i64 (0 : Int), .int .i64 (0 : Int), .bool false, .pointer none] 69) w fun b4 w1 =>
  Pn h0 fun a =>
  LdP (a.add 17) w1 fun x13 =>
  sock_Table_Get.Call x13 sd w1 fun r15_0_0 r15_0_1 r15_0_2 r15_0_3 r15_0_4 r15_0_5 r15_0_6 r15_0_7 r15_1 w2 =>
  New (.cells #[.int .i64 (0 : Int), .int .i64 (0 : Int), .int .i64 (0 : Int), .int .i64 (0 : Int), .int .i64 (0 : Int), .int .i64 (0 : Int), .int .i64 (0 : Int), .bool false] 66) w2 fun en_ w3 =>
  Sts [.int .i64 r15_0_0, .int .i64 r15_0_1, .int .i64 r15_0_2, .int .i64 r15_0_3, .int .i64 r15_0_4, .int .i64 r15_0_5, .int .i64 r15_0_6, .bool r15_0_7] ⟨en_, 0, none⟩ 0 w3 fun w4 =>
  Bm (r15_1 != (0 : Int)) (
    Sts [.int .i64 (0 : Int), .int .i64 (0 : Int), .int .i64 (0 : Int), .int .i64 (0 : Int), .int .i64 (0 : Int), .int .i64 (0 : Int), .int .i64 (0 : Int), .bool false, .pointer none] ⟨b4, 0, none⟩ 0 w4 fun w5 =>
    LdI .i64 ⟨b4, 0, none⟩ w5 fun r_0 =>
    LdI .i64 ⟨b4, 1, none⟩ w5 fun r_1 =>
    LdI .i64 ⟨b4, 2, none⟩ w5 fun r_2 =>
    LdI .i64 ⟨b4, 3, none⟩ w5 fun r_3 =>
    LdI .i64 ⟨b4, 4, none⟩ w5 fun r_4 =>
    LdI .i64 ⟨b4, 5, none⟩ w5 fun r_5 =>
    LdI .i64 ⟨b4, 6, none⟩ w5 fun r_6 =>
    LdB ⟨b4, 7, none⟩ w5 fun r_7 =>
    LdP ⟨b4, 8, none⟩ w5 fun r_8 =>
    R r_0 r_1 r_2 r_3 r_4 r_5 r_6 r_7 r_8 (21 : Int) w5) (
    LdI .i64 ⟨en_, 0, none⟩ w4 fun x21_0 =>
    LdI .i64 ⟨en_, 1, none⟩ w4 fun x21_1 =>
    LdI .i64 ⟨en_, 2, none⟩ w4 fun x21_2 =>
    LdI .i64 ⟨en_, 3, none⟩ w4 fun x21_3 =>
    LdI .i64 ⟨en_, 4, none⟩ w4 fun x21_4 =>
    LdI .i64 ⟨en_, 5, none⟩ w4 fun x21_5 =>
    LdI .i64 ⟨en_, 6, none⟩ w4 fun x21_6 =>
    LdB ⟨en_, 7, none⟩ w4 fun x21_7 =>
    New (.cells #[.int .i64 (0 : Int), .int .i64 (0 : Int), .int .i64 (0 : Int), .int .i64 (0 : Int), .int .i64 (0 : Int), .int .i64 (0 : Int), .int .i64 (0 : Int), .bool false, .pointer none] 69) w4 fun s_ w6 =>
    Sts [.int .i64 x21_0, .int .i64 x21_1, .int .i64 x21_2, .int .i64 x21_3, .int .i64 x21_4, .int .i64 x21_5, .int .i64 x21_6, .bool x21_7, .pointer none] ⟨s_, 0, none⟩ 0 w6 fun w7 =>
    LdI .i64 ⟨en_, 1, none⟩ w7 fun x24 =>
    Bm (x24 == (2 : Int)) (
      LdI .i64 ⟨en_, 5, none⟩ w7.drew fun x28 =>
      Pn h0 fun a_1 =>
      (0 ≤ x28 ∧ x28 < ((4 : Nat) : Int)) ∧
      LdP (Addr.add (a_1.add 13) (x28.toNat * 1)) w7.drew fun x32 =>
      conn_Conn_Info.Call x32 w7.drew fun r33 w8 =>
      Sts [.pointer r33] ⟨s_, 8, none⟩ 0 w8 fun w9 =>
      sB1 b4 s_ w9) (
      New (.cells #[.int .i64 (0 : Int), .int .i64 (0 : Int), .bool false, .bool false, .bool false, .bool false, .int .i64 (0 : Int), .int .i64 (0 : Int), .int .i64 (0 : Int), .int .i64 (0 : Int), .int .i64 (0 : Int), .int .i64 (0 : Int), .int .i64 (0 : Int), .int .i64 (0 : Int), .int .i64 (0 : Int), .int .i64 (0 : Int), .int .i64 (0 : Int), .int .i64 (0 : Int)] 95) w7 fun b36 w10 =>
      Sts [.pointer (some ⟨b36, 0, none⟩)] ⟨s_, 8, none⟩ 0 w10 fun w11 =>
      sB1 b4 s_ w11))) = kstep Tryz.prog 39 Tryz.f32.results.toList (Tryz.f32.body.getD .skip) (host_Host_Info.RV R) (kvc Tryz.prog 39 Tryz.f32.results.toList (Tryz.f32.body.getD .skip) (host_Host_Info.RV R) [([(0, [1, 1, 1, 1, 1])], fun σ w => dK (slotOf σ 4) fun t4_ => dK (slotOf σ 8) fun s_ => sB1 t4_ s_ w)] 2000) [(0, [])] [(0, .pointer h0), (1, .int .i64 sd)] w := by kernel_rfl
theorem host_Host_Info.B0_sound {R : Int → Int → Int → Int → Int → Int → Int → Bool → Option Addr → Int → World → Prop}  (h0 : Option Addr) (sd : Int) (w : World) (h : host_Host_Info.B0 h0 sd w   R) :
    KW Tryz.prog 32 39 (host_Host_Info.RV R) ([(0, [])].map (toItem (Tryz.f32.body.getD .skip))) [(0, .pointer h0), (1, .int .i64 sd)] w := by
  exact block_spec Tryz.func32 Tryz.mixed (stops_cons (fun σ w h => by
      obtain ⟨t4_, e0, h⟩ := dK_elim h
      obtain ⟨s_, e1, h⟩ := dK_elim h
      exact (host_Host_Info.B1_sound  t4_ s_ w h).weaken (Sub.cons (Sub.cons (Sub.nil _) e1) e0)) stops_nil) (Eq.mp (host_Host_Info.B0_eq h0 sd w   R (fun t4_ s_ w => host_Host_Info.B1 t4_ s_ w  R)) h)
theorem host_Host_Info.sound (h0 : Option Addr) (sd : Int) (w : World) (R : Int → Int → Int → Int → Int → Int → Int → Bool → Option Addr → Int → World → Prop) (h : host_Host_Info.B0 h0 sd w R) : host_Host_Info.Call h0 sd w R := by
  have hc := calls_of_block (args := #[.pointer h0, .int .i64 sd]) Tryz.func32 (body := (Tryz.f32.body.getD .skip)) (by kernel_rfl) (by kernel_rfl) (args_slot _) (host_Host_Info.B0_sound h0 sd w h)
  exact hc.mono fun e w' he => by
    obtain ⟨v, rfl, hv⟩ := he
    exact host_Host_Info.RV_elim hv
def hostm_Net_See.B2 (n : Option Addr) (host : Int) (s : Nat) (rh : Int) (t62 : Bool) (w : World)   (R : Bool → World → Prop) : Prop :=
  Bm t62 (
    R false w) (
    LdI .i64 ⟨s, 4, none⟩ w fun x67 =>
    LdI .i64 ⟨s, 2, none⟩ w fun x72 =>
    hostm_Net_latest.Call n rh x67 (IntKind.i64.wrap (host + (1 : Int))) x72 true w fun r73 w1 =>
    Bm (decide (r73 < (0 : Int))) (
      R false w1) (
      Pn n fun a =>
      LdL a w1.drew fun x80_b x80_l x80_c =>
      LdI .i64 ⟨s, 0, none⟩ w1.drew fun x84 =>
      LdI .i64 ⟨s, 2, none⟩ w1.drew fun x87 =>
      LdI .i64 ⟨s, 3, none⟩ w1.drew fun x90 =>
      LdI .i64 ⟨s, 4, none⟩ w1.drew fun x93 =>
      New (.cells #[.int .i64 host, .int .i64 x84, .int .i64 x87, .int .i64 x90, .int .i64 x93, .bool false, .int .i64 r73, .slice none 0 0, .slice none 0 0, .int .i64 (0 : Int), .int .i64 (2 : Int), .int .i64 (0 : Int), .bool false, .bool false, .bool false, .bool false] 83) w1.drew fun b96 w2 =>
      w2.cell? a = some (.slice x80_b x80_l x80_c) ∧
      Append 83 (.agg #[.int .i64 (0 : Int), .int .i64 (0 : Int), .int .i64 (0 : Int), .int .i64 (0 : Int), .int .i64 (0 : Int), .bool false, .int .i64 (0 : Int), .slice none 0 0, .slice none 0 0, .int .i64 (0 : Int), .int .i64 (0 : Int), .int .i64 (0 : Int), .bool false, .bool false, .bool false, .bool false]) 16 136 x80_b x80_l x80_c (some ⟨b96, 0, none⟩) 1 w2 fun b97 c97 w3 =>
      Pn n fun a_1 =>
      Sts [.slice b97 (x80_l + 1) c97] a_1 0 w3 fun w4 =>
      R true w4))
theorem hostm_Net_See.B2_eq (n : Option Addr) (host : Int) (s : Nat) (rh : Int) (t62 : Bool) (w : World)   (R : Bool → World → Prop)  :
    (
  Bm t62 (
    R false w) (
    LdI .i64 ⟨s, 4, none⟩ w fun x67 =>
    LdI .i64 ⟨s, 2, none⟩ w fun x72 =>
    hostm_Net_latest.Call n rh x67 (IntKind.i64.wrap (host + (1 : Int))) x72 true w fun r73 w1 =>
    Bm (decide (r73 < (0 : Int))) (
      R false w1) (
      Pn n fun a =>
      LdL a w1.drew fun x80_b x80_l x80_c =>
      LdI .i64 ⟨s, 0, none⟩ w1.drew fun x84 =>
      LdI .i64 ⟨s, 2, none⟩ w1.drew fun x87 =>
      LdI .i64 ⟨s, 3, none⟩ w1.drew fun x90 =>
      LdI .i64 ⟨s, 4, none⟩ w1.drew fun x93 =>
      New (.cells #[.int .i64 host, .int .i64 x84, .int .i64 x87, .int .i64 x90, .int .i64 x93, .bool false, .int .i64 r73, .slice none 0 0, .slice none 0 0, .int .i64 (0 : Int), .int .i64 (2 : Int), .int .i64 (0 : Int), .bool false, .bool false, .bool false, .bool false] 83) w1.drew fun b96 w2 =>
      w2.cell? a = some (.slice x80_b x80_l x80_c) ∧
      Append 83 (.agg #[.int .i64 (0 : Int), .int .i64 (0 : Int), .int .i64 (0 : Int), .int .i64 (0 : Int), .int .i64 (0 : Int), .bool false, .int .i64 (0 : Int), .slice none 0 0, .slice none 0 0, .int .i64 (0 : Int), .int .i64 (0 : Int), .int .i64 (0 : Int), .bool false, .bool false, .bool false, .bool false]) 16 136 x80_b x80_l x80_c (some ⟨b96, 0, none⟩) 1 w2 fun b97 c97 w3 =>
      Pn n fun a_1 =>
      Sts [.slice b97 (x80_l + 1) c97] a_1 0 w3 fun w4 =>
      R true w4))) = kstep Tryz.prog 500 Tryz.f33.results.toList (Tryz.f33.body.getD .skip) (hostm_Net_See.RV R) (kvc Tryz.prog 500 Tryz.f33.results.toList (Tryz.f33.body.getD .skip) (hostm_Net_See.RV R) [] 2000) [(0, [1, 1, 1, 0, 1, 0, 1, 0, 1]), (0, [1, 1, 1, 0, 1, 0, 1, 1]), (0, [1, 1, 1, 1])] [(0, .pointer n), (1, .int .i64 host), (5, .pointer (some ⟨s, 0, none⟩)), (8, .int .i64 rh), (62, .bool t62)] w := by kernel_rfl
theorem hostm_Net_See.B2_sound {R : Bool → World → Prop}  (n : Option Addr) (host : Int) (s : Nat) (rh : Int) (t62 : Bool) (w : World) (h : hostm_Net_See.B2 n host s rh t62 w   R) :
    KW Tryz.prog 33 500 (hostm_Net_See.RV R) ([(0, [1, 1, 1, 0, 1, 0, 1, 0, 1]), (0, [1, 1, 1, 0, 1, 0, 1, 1]), (0, [1, 1, 1, 1])].map (toItem (Tryz.f33.body.getD .skip))) [(0, .pointer n), (1, .int .i64 host), (5, .pointer (some ⟨s, 0, none⟩)), (8, .int .i64 rh), (62, .bool t62)] w := by
  exact block_spec Tryz.func33 Tryz.mixed stops_nil (Eq.mp (hostm_Net_See.B2_eq n host s rh t62 w   R ) h)
def hostm_Net_See.B12 (n : Option Addr) (i : Int) (t492 : Bool) (w : World)   (R : Bool → World → Prop) : Prop :=
  Bm t492 (
    R false w) (
    Pn n fun a =>
    LdL a w fun x496_b x496_l x496_c =>
    Pn x496_b fun a_1 =>
    (0 ≤ i ∧ i < ((x496_l : Nat) : Int)) ∧
    Sts [.bool true] ((Addr.add a_1 (i.toNat * 16)).add 13) 0 w fun w1 =>
    R true w1)
theorem hostm_Net_See.B12_eq (n : Option Addr) (i : Int) (t492 : Bool) (w : World)   (R : Bool → World → Prop)  :
    (
  Bm t492 (
    R false w) (
    Pn n fun a =>
    LdL a w fun x496_b x496_l x496_c =>
    Pn x496_b fun a_1 =>
    (0 ≤ i ∧ i < ((x496_l : Nat) : Int)) ∧
    Sts [.bool true] ((Addr.add a_1 (i.toNat * 16)).add 13) 0 w fun w1 =>
    R true w1)) = kstep Tryz.prog 500 Tryz.f33.results.toList (Tryz.f33.body.getD .skip) (hostm_Net_See.RV R) (kvc Tryz.prog 500 Tryz.f33.results.toList (Tryz.f33.body.getD .skip) (hostm_Net_See.RV R) [] 2000) [(0, [1, 1, 1, 1, 1, 1, 1, 1, 1, 1, 1, 0, 1, 0, 0, 1]), (0, [1, 1, 1, 1, 1, 1, 1, 1, 1, 1, 1, 0, 1, 0, 1]), (0, [1, 1, 1, 1, 1, 1, 1, 1, 1, 1, 1, 1])] [(0, .pointer n), (7, .int .i64 i), (492, .bool t492)] w := by kernel_rfl
theorem hostm_Net_See.B12_sound {R : Bool → World → Prop}  (n : Option Addr) (i : Int) (t492 : Bool) (w : World) (h : hostm_Net_See.B12 n i t492 w   R) :
    KW Tryz.prog 33 500 (hostm_Net_See.RV R) ([(0, [1, 1, 1, 1, 1, 1, 1, 1, 1, 1, 1, 0, 1, 0, 0, 1]), (0, [1, 1, 1, 1, 1, 1, 1, 1, 1, 1, 1, 0, 1, 0, 1]), (0, [1, 1, 1, 1, 1, 1, 1, 1, 1, 1, 1, 1])].map (toItem (Tryz.f33.body.getD .skip))) [(0, .pointer n), (7, .int .i64 i), (492, .bool t492)] w := by
  exact block_spec Tryz.func33 Tryz.mixed stops_nil (Eq.mp (hostm_Net_See.B12_eq n i t492 w   R ) h)
def hostm_Net_See.B11 (n : Option Addr) (i : Int) (t438 : Bool) (w : World)   (R : Bool → World → Prop) : Prop :=
  Bm t438 (
    Pn n fun a =>
    LdL a w.drew fun x442_b x442_l x442_c =>
    Pn x442_b fun a_1 =>
    (0 ≤ i ∧ i < ((x442_l : Nat) : Int)) ∧
    LdI .i64 ((Addr.add a_1 (i.toNat * 16)).add 6) w.drew fun x446 =>
    Bm (decide (x446 < (0 : Int))) (
      hostm_Net_See.B12 n i true w.drew  R) (
      Pn n fun a_2 =>
      LdL a_2 w.drew fun x452_b x452_l x452_c =>
      Pn n fun a_3 =>
      LdL a_3 w.drew fun x456_b x456_l x456_c =>
      Pn x456_b fun a_4 =>
      (0 ≤ i ∧ i < ((x456_l : Nat) : Int)) ∧
      LdI .i64 ((Addr.add a_4 (i.toNat * 16)).add 6) w.drew fun x460 =>
      Pn x452_b fun a_5 =>
      (0 ≤ x460 ∧ x460 < ((x452_l : Nat) : Int)) ∧
      LdB ((Addr.add a_5 (x460.toNat * 16)).add 12) w.drew fun x463 =>
      Bm (!x463) (
        hostm_Net_See.B12 n i true w.drew  R) (
        Pn n fun a_6 =>
        LdL a_6 w.drew fun x470_b x470_l x470_c =>
        Pn x470_b fun a_7 =>
        (0 ≤ i ∧ i < ((x470_l : Nat) : Int)) ∧
        LdI .i64 ((Addr.add a_7 (i.toNat * 16)).add 9) w.drew fun x474 =>
        Pn n fun a_8 =>
        LdL a_8 w.drew fun x478_b x478_l x478_c =>
        Pn n fun a_9 =>
        LdL a_9 w.drew fun x482_b x482_l x482_c =>
        Pn x482_b fun a_10 =>
        (0 ≤ i ∧ i < ((x482_l : Nat) : Int)) ∧
        LdI .i64 ((Addr.add a_10 (i.toNat * 16)).add 6) w.drew fun x486 =>
        Pn x478_b fun a_11 =>
        (0 ≤ x486 ∧ x486 < ((x478_l : Nat) : Int)) ∧
        LdL ((Addr.add a_11 (x486.toNat * 16)).add 7) w.drew fun x489_b x489_l x489_c =>
        hostm_Net_See.B12 n i (x474 != ((x489_l : Nat) : Int)) w.drew  R))) (
    R true w)
theorem hostm_Net_See.B11_eq (n : Option Addr) (i : Int) (t438 : Bool) (w : World)   (R : Bool → World → Prop) (sB12 : Option Addr → Int → Bool → World → Prop) :
    (
  Bm t438 (
    Pn n fun a =>
    LdL a w.drew fun x442_b x442_l x442_c =>
    Pn x442_b fun a_1 =>
    (0 ≤ i ∧ i < ((x442_l : Nat) : Int)) ∧
    LdI .i64 ((Addr.add a_1 (i.toNat * 16)).add 6) w.drew fun x446 =>
    Bm (decide (x446 < (0 : Int))) (
      sB12 n i true w.drew) (
      Pn n fun a_2 =>
      LdL a_2 w.drew fun x452_b x452_l x452_c =>
      Pn n fun a_3 =>
      LdL a_3 w.drew fun x456_b x456_l x456_c =>
      Pn x456_b fun a_4 =>
      (0 ≤ i ∧ i < ((x456_l : Nat) : Int)) ∧
      LdI .i64 ((Addr.add a_4 (i.toNat * 16)).add 6) w.drew fun x460 =>
      Pn x452_b fun a_5 =>
      (0 ≤ x460 ∧ x460 < ((x452_l : Nat) : Int)) ∧
      LdB ((Addr.add a_5 (x460.toNat * 16)).add 12) w.drew fun x463 =>
      Bm (!x463) (
        sB12 n i true w.drew) (
        Pn n fun a_6 =>
        LdL a_6 w.drew fun x470_b x470_l x470_c =>
        Pn x470_b fun a_7 =>
        (0 ≤ i ∧ i < ((x470_l : Nat) : Int)) ∧
        LdI .i64 ((Addr.add a_7 (i.toNat * 16)).add 9) w.drew fun x474 =>
        Pn n fun a_8 =>
        LdL a_8 w.drew fun x478_b x478_l x478_c =>
        Pn n fun a_9 =>
        LdL a_9 w.drew fun x482_b x482_l x482_c =>
        Pn x482_b fun a_10 =>
        (0 ≤ i ∧ i < ((x482_l : Nat) : Int)) ∧
        LdI .i64 ((Addr.add a_10 (i.toNat * 16)).add 6) w.drew fun x486 =>
        Pn x478_b fun a_11 =>
        (0 ≤ x486 ∧ x486 < ((x478_l : Nat) : Int)) ∧
        LdL ((Addr.add a_11 (x486.toNat * 16)).add 7) w.drew fun x489_b x489_l x489_c =>
        sB12 n i (x474 != ((x489_l : Nat) : Int)) w.drew))) (
    R true w)) = kstep Tryz.prog 500 Tryz.f33.results.toList (Tryz.f33.body.getD .skip) (hostm_Net_See.RV R) (kvc Tryz.prog 500 Tryz.f33.results.toList (Tryz.f33.body.getD .skip) (hostm_Net_See.RV R) [([(0, [1, 1, 1, 1, 1, 1, 1, 1, 1, 1, 1, 0, 1, 0, 0, 1]), (0, [1, 1, 1, 1, 1, 1, 1, 1, 1, 1, 1, 0, 1, 0, 1]), (0, [1, 1, 1, 1, 1, 1, 1, 1, 1, 1, 1, 1])], fun σ w => dP (slotOf σ 0) fun n_ => dI .i64 (slotOf σ 7) fun i_ => dB (slotOf σ 492) fun t492_ => sB12 n_ i_ t492_ w)] 2000) [(0, [1, 1, 1, 1, 1, 1, 1, 1, 1, 1, 1, 0, 1]), (0, [1, 1, 1, 1, 1, 1, 1, 1, 1, 1, 1, 1])] [(0, .pointer n), (7, .int .i64 i), (438, .bool t438)] w := by kernel_rfl
theorem hostm_Net_See.B11_sound {R : Bool → World → Prop}  (n : Option Addr) (i : Int) (t438 : Bool) (w : World) (h : hostm_Net_See.B11 n i t438 w   R) :
    KW Tryz.prog 33 500 (hostm_Net_See.RV R) ([(0, [1, 1, 1, 1, 1, 1, 1, 1, 1, 1, 1, 0, 1]), (0, [1, 1, 1, 1, 1, 1, 1, 1, 1, 1, 1, 1])].map (toItem (Tryz.f33.body.getD .skip))) [(0, .pointer n), (7, .int .i64 i), (438, .bool t438)] w := by
  exact block_spec Tryz.func33 Tryz.mixed (stops_cons (fun σ w h => by
      obtain ⟨n_, e0, h⟩ := dP_elim h
      obtain ⟨i_, e1, h⟩ := dI_elim h
      obtain ⟨t492_, e2, h⟩ := dB_elim h
      exact (hostm_Net_See.B12_sound  n_ i_ t492_ w h).weaken (Sub.cons (Sub.cons (Sub.cons (Sub.nil _) e2) e1) e0)) stops_nil) (Eq.mp (hostm_Net_See.B11_eq n i t438 w   R (fun n_ i_ t492_ w => hostm_Net_See.B12 n_ i_ t492_ w  R)) h)
def hostm_Net_See.B10 (n : Option Addr) (s : Nat) (i : Int) (t422 : Bool) (w : World)   (R : Bool → World → Prop) : Prop :=
  Bm t422 (
    R false w) (
    LdP ⟨s, 8, none⟩ w fun x424 =>
    Pn x424 fun a =>
    LdB (a.add 5) w fun x427 =>
    Bm x427 (
      Pn n fun a_1 =>
      LdL a_1 w fun x432_b x432_l x432_c =>
      Pn x432_b fun a_2 =>
      (0 ≤ i ∧ i < ((x432_l : Nat) : Int)) ∧
      LdB ((Addr.add a_2 (i.toNat * 16)).add 13) w fun x436 =>
      hostm_Net_See.B11 n i (!x436) w  R) (
      hostm_Net_See.B11 n i false w  R))
theorem hostm_Net_See.B10_eq (n : Option Addr) (s : Nat) (i : Int) (t422 : Bool) (w : World)   (R : Bool → World → Prop) (sB11 : Option Addr → Int → Bool → World → Prop) :
    (
  Bm t422 (
    R false w) (
    LdP ⟨s, 8, none⟩ w fun x424 =>
    Pn x424 fun a =>
    LdB (a.add 5) w fun x427 =>
    Bm x427 (
      Pn n fun a_1 =>
      LdL a_1 w fun x432_b x432_l x432_c =>
      Pn x432_b fun a_2 =>
      (0 ≤ i ∧ i < ((x432_l : Nat) : Int)) ∧
      LdB ((Addr.add a_2 (i.toNat * 16)).add 13) w fun x436 =>
      sB11 n i (!x436) w) (
      sB11 n i false w))) = kstep Tryz.prog 500 Tryz.f33.results.toList (Tryz.f33.body.getD .skip) (hostm_Net_See.RV R) (kvc Tryz.prog 500 Tryz.f33.results.toList (Tryz.f33.body.getD .skip) (hostm_Net_See.RV R) [([(0, [1, 1, 1, 1, 1, 1, 1, 1, 1, 1, 1, 0, 1]), (0, [1, 1, 1, 1, 1, 1, 1, 1, 1, 1, 1, 1])], fun σ w => dP (slotOf σ 0) fun n_ => dI .i64 (slotOf σ 7) fun i_ => dB (slotOf σ 438) fun t438_ => sB11 n_ i_ t438_ w)] 2000) [(0, [1, 1, 1, 1, 1, 1, 1, 1, 1, 1, 0, 1]), (0, [1, 1, 1, 1, 1, 1, 1, 1, 1, 1, 1])] [(0, .pointer n), (5, .pointer (some ⟨s, 0, none⟩)), (7, .int .i64 i), (422, .bool t422)] w := by kernel_rfl
theorem hostm_Net_See.B10_sound {R : Bool → World → Prop}  (n : Option Addr) (s : Nat) (i : Int) (t422 : Bool) (w : World) (h : hostm_Net_See.B10 n s i t422 w   R) :
    KW Tryz.prog 33 500 (hostm_Net_See.RV R) ([(0, [1, 1, 1, 1, 1, 1, 1, 1, 1, 1, 0, 1]), (0, [1, 1, 1, 1, 1, 1, 1, 1, 1, 1, 1])].map (toItem (Tryz.f33.body.getD .skip))) [(0, .pointer n), (5, .pointer (some ⟨s, 0, none⟩)), (7, .int .i64 i), (422, .bool t422)] w := by
  exact block_spec Tryz.func33 Tryz.mixed (stops_cons (fun σ w h => by
      obtain ⟨n_, e0, h⟩ := dP_elim h
      obtain ⟨i_, e1, h⟩ := dI_elim h
      obtain ⟨t438_, e2, h⟩ := dB_elim h
      exact (hostm_Net_See.B11_sound  n_ i_ t438_ w h).weaken (Sub.cons (Sub.cons (Sub.cons (Sub.nil _) e2) e1) e0)) stops_nil) (Eq.mp (hostm_Net_See.B10_eq n s i t422 w   R (fun n_ i_ t438_ w => hostm_Net_See.B11 n_ i_ t438_ w  R)) h)
def hostm_Net_See.B9 (n : Option Addr) (s : Nat) (i : Int) (w : World)   (R : Bool → World → Prop) : Prop :=
  Pn n fun a =>
  LdL a w.drew fun x379_b x379_l x379_c =>
  Pn x379_b fun a_1 =>
  (0 ≤ i ∧ i < ((x379_l : Nat) : Int)) ∧
  LdI .i64 ((Addr.add a_1 (i.toNat * 16)).add 9) w.drew fun x383 =>
  Bm (decide (x383 > (0 : Int))) (
    Pn n fun a_2 =>
    LdL a_2 w.drew fun x389_b x389_l x389_c =>
    Pn x389_b fun a_3 =>
    (0 ≤ i ∧ i < ((x389_l : Nat) : Int)) ∧
    LdI .i64 ((Addr.add a_3 (i.toNat * 16)).add 6) w.drew fun x393 =>
    Bm (decide (x393 < (0 : Int))) (
      hostm_Net_See.B10 n s i true w.drew  R) (
      Pn n fun a_4 =>
      LdL a_4 w.drew fun x399_b x399_l x399_c =>
      Pn x399_b fun a_5 =>
      (0 ≤ i ∧ i < ((x399_l : Nat) : Int)) ∧
      LdI .i64 ((Addr.add a_5 (i.toNat * 16)).add 9) w.drew fun x403 =>
      Pn n fun a_6 =>
      LdL a_6 w.drew fun x407_b x407_l x407_c =>
      Pn n fun a_7 =>
      LdL a_7 w.drew fun x411_b x411_l x411_c =>
      Pn x411_b fun a_8 =>
      (0 ≤ i ∧ i < ((x411_l : Nat) : Int)) ∧
      LdI .i64 ((Addr.add a_8 (i.toNat * 16)).add 6) w.drew fun x415 =>
      Pn x407_b fun a_9 =>
      (0 ≤ x415 ∧ x415 < ((x407_l : Nat) : Int)) ∧
      LdL ((Addr.add a_9 (x415.toNat * 16)).add 7) w.drew fun x418_b x418_l x418_c =>
      hostm_Net_See.B10 n s i (decide (x403 > ((x418_l : Nat) : Int))) w.drew  R)) (
    hostm_Net_See.B10 n s i false w.drew  R)
theorem hostm_Net_See.B9_eq (n : Option Addr) (s : Nat) (i : Int) (w : World)   (R : Bool → World → Prop) (sB10 : Option Addr → Nat → Int → Bool → World → Prop) :
    (
  Pn n fun a =>
  LdL a w.drew fun x379_b x379_l x379_c =>
  Pn x379_b fun a_1 =>
  (0 ≤ i ∧ i < ((x379_l : Nat) : Int)) ∧
  LdI .i64 ((Addr.add a_1 (i.toNat * 16)).add 9) w.drew fun x383 =>
  Bm (decide (x383 > (0 : Int))) (
    Pn n fun a_2 =>
    LdL a_2 w.drew fun x389_b x389_l x389_c =>
    Pn x389_b fun a_3 =>
    (0 ≤ i ∧ i < ((x389_l : Nat) : Int)) ∧
    LdI .i64 ((Addr.add a_3 (i.toNat * 16)).add 6) w.drew fun x393 =>
    Bm (decide (x393 < (0 : Int))) (
      sB10 n s i true w.drew) (
      Pn n fun a_4 =>
      LdL a_4 w.drew fun x399_b x399_l x399_c =>
      Pn x399_b fun a_5 =>
      (0 ≤ i ∧ i < ((x399_l : Nat) : Int)) ∧
      LdI .i64 ((Addr.add a_5 (i.toNat * 16)).add 9) w.drew fun x403 =>
      Pn n fun a_6 =>
      LdL a_6 w.drew fun x407_b x407_l x407_c =>
      Pn n fun a_7 =>
      LdL a_7 w.drew fun x411_b x411_l x411_c =>
      Pn x411_b fun a_8 =>
      (0 ≤ i ∧ i < ((x411_l : Nat) : Int)) ∧
      LdI .i64 ((Addr.add a_8 (i.toNat * 16)).add 6) w.drew fun x415 =>
      Pn x407_b fun a_9 =>
      (0 ≤ x415 ∧ x415 < ((x407_l : Nat) : Int)) ∧
      LdL ((Addr.add a_9 (x415.toNat * 16)).add 7) w.drew fun x418_b x418_l x418_c =>
      sB10 n s i (decide (x403 > ((x418_l : Nat) : Int))) w.drew)) (
    sB10 n s i false w.drew)) = kstep Tryz.prog 500 Tryz.f33.results.toList (Tryz.f33.body.getD .skip) (hostm_Net_See.RV R) (kvc Tryz.prog 500 Tryz.f33.results.toList (Tryz.f33.body.getD .skip) (hostm_Net_See.RV R) [([(0, [1, 1, 1, 1, 1, 1, 1, 1, 1, 1, 0, 1]), (0, [1, 1, 1, 1, 1, 1, 1, 1, 1, 1, 1])], fun σ w => dP (slotOf σ 0) fun n_ => dK (slotOf σ 5) fun s_ => dI .i64 (slotOf σ 7) fun i_ => dB (slotOf σ 422) fun t422_ => sB10 n_ s_ i_ t422_ w)] 2000) [(0, [1, 1, 1, 1, 1, 1, 1, 1, 1, 1])] [(0, .pointer n), (5, .pointer (some ⟨s, 0, none⟩)), (7, .int .i64 i)] w := by kernel_rfl
theorem hostm_Net_See.B9_sound {R : Bool → World → Prop}  (n : Option Addr) (s : Nat) (i : Int) (w : World) (h : hostm_Net_See.B9 n s i w   R) :
    KW Tryz.prog 33 500 (hostm_Net_See.RV R) ([(0, [1, 1, 1, 1, 1, 1, 1, 1, 1, 1])].map (toItem (Tryz.f33.body.getD .skip))) [(0, .pointer n), (5, .pointer (some ⟨s, 0, none⟩)), (7, .int .i64 i)] w := by
  exact block_spec Tryz.func33 Tryz.mixed (stops_cons (fun σ w h => by
      obtain ⟨n_, e0, h⟩ := dP_elim h
      obtain ⟨s_, e1, h⟩ := dK_elim h
      obtain ⟨i_, e2, h⟩ := dI_elim h
      obtain ⟨t422_, e3, h⟩ := dB_elim h
      exact (hostm_Net_See.B10_sound  n_ s_ i_ t422_ w h).weaken (Sub.cons (Sub.cons (Sub.cons (Sub.cons (Sub.nil _) e3) e2) e1) e0)) stops_nil) (Eq.mp (hostm_Net_See.B9_eq n s i w   R (fun n_ s_ i_ t422_ w => hostm_Net_See.B10 n_ s_ i_ t422_ w  R)) h)
def hostm_Net_See.B8 (n : Option Addr) (s : Nat) (i : Int) (t329 : Bool) (w : World)   (R : Bool → World → Prop) : Prop :=
  Bm t329 (
    R false w) (
    Pn n fun a =>
    LdL a w.drew fun x333_b x333_l x333_c =>
    Pn x333_b fun a_1 =>
    (0 ≤ i ∧ i < ((x333_l : Nat) : Int)) ∧
    LdL ((Addr.add a_1 (i.toNat * 16)).add 8) w.drew fun x337_b x337_l x337_c =>
    LdP ⟨s, 8, none⟩ w.drew fun x340 =>
    Pn x340 fun a_2 =>
    LdI .i64 (a_2.add 11) w.drew fun x343 =>
    Pn n fun a_3 =>
    LdL a_3 w.drew fun x348_b x348_l x348_c =>
    Pn x348_b fun a_4 =>
    (0 ≤ i ∧ i < ((x348_l : Nat) : Int)) ∧
    LdI .i64 ((Addr.add a_4 (i.toNat * 16)).add 9) w.drew fun x352 =>
    Bm (decide ((IntKind.i64.wrap (((x337_l : Nat) : Int) + x343)) > x352)) (
      Pn n fun a_5 =>
      LdL a_5 w.drew.drew fun x357_b x357_l x357_c =>
      Pn n fun a_6 =>
      LdL a_6 w.drew.drew fun x362_b x362_l x362_c =>
      Pn x362_b fun a_7 =>
      (0 ≤ i ∧ i < ((x362_l : Nat) : Int)) ∧
      LdL ((Addr.add a_7 (i.toNat * 16)).add 8) w.drew.drew fun x366_b x366_l x366_c =>
      LdP ⟨s, 8, none⟩ w.drew.drew fun x369 =>
      Pn x369 fun a_8 =>
      LdI .i64 (a_8.add 11) w.drew.drew fun x372 =>
      Pn x357_b fun a_9 =>
      (0 ≤ i ∧ i < ((x357_l : Nat) : Int)) ∧
      Sts [.int .i64 (IntKind.i64.wrap (((x366_l : Nat) : Int) + x372))] ((Addr.add a_9 (i.toNat * 16)).add 9) 0 w.drew.drew fun w1 =>
      hostm_Net_See.B9 n s i w1  R) (
      hostm_Net_See.B9 n s i w.drew  R))
theorem hostm_Net_See.B8_eq (n : Option Addr) (s : Nat) (i : Int) (t329 : Bool) (w : World)   (R : Bool → World → Prop) (sB9 : Option Addr → Nat → Int → World → Prop) :
    (
  Bm t329 (
    R false w) (
    Pn n fun a =>
    LdL a w.drew fun x333_b x333_l x333_c =>
    Pn x333_b fun a_1 =>
    (0 ≤ i ∧ i < ((x333_l : Nat) : Int)) ∧
    LdL ((Addr.add a_1 (i.toNat * 16)).add 8) w.drew fun x337_b x337_l x337_c =>
    LdP ⟨s, 8, none⟩ w.drew fun x340 =>
    Pn x340 fun a_2 =>
    LdI .i64 (a_2.add 11) w.drew fun x343 =>
    Pn n fun a_3 =>
    LdL a_3 w.drew fun x348_b x348_l x348_c =>
    Pn x348_b fun a_4 =>
    (0 ≤ i ∧ i < ((x348_l : Nat) : Int)) ∧
    LdI .i64 ((Addr.add a_4 (i.toNat * 16)).add 9) w.drew fun x352 =>
    Bm (decide ((IntKind.i64.wrap (((x337_l : Nat) : Int) + x343)) > x352)) (
      Pn n fun a_5 =>
      LdL a_5 w.drew.drew fun x357_b x357_l x357_c =>
      Pn n fun a_6 =>
      LdL a_6 w.drew.drew fun x362_b x362_l x362_c =>
      Pn x362_b fun a_7 =>
      (0 ≤ i ∧ i < ((x362_l : Nat) : Int)) ∧
      LdL ((Addr.add a_7 (i.toNat * 16)).add 8) w.drew.drew fun x366_b x366_l x366_c =>
      LdP ⟨s, 8, none⟩ w.drew.drew fun x369 =>
      Pn x369 fun a_8 =>
      LdI .i64 (a_8.add 11) w.drew.drew fun x372 =>
      Pn x357_b fun a_9 =>
      (0 ≤ i ∧ i < ((x357_l : Nat) : Int)) ∧
      Sts [.int .i64 (IntKind.i64.wrap (((x366_l : Nat) : Int) + x372))] ((Addr.add a_9 (i.toNat * 16)).add 9) 0 w.drew.drew fun w1 =>
      sB9 n s i w1) (
      sB9 n s i w.drew))) = kstep Tryz.prog 500 Tryz.f33.results.toList (Tryz.f33.body.getD .skip) (hostm_Net_See.RV R) (kvc Tryz.prog 500 Tryz.f33.results.toList (Tryz.f33.body.getD .skip) (hostm_Net_See.RV R) [([(0, [1, 1, 1, 1, 1, 1, 1, 1, 1, 1])], fun σ w => dP (slotOf σ 0) fun n_ => dK (slotOf σ 5) fun s_ => dI .i64 (slotOf σ 7) fun i_ => sB9 n_ s_ i_ w)] 2000) [(0, [1, 1, 1, 1, 1, 1, 1, 1, 0, 1]), (0, [1, 1, 1, 1, 1, 1, 1, 1, 1])] [(0, .pointer n), (5, .pointer (some ⟨s, 0, none⟩)), (7, .int .i64 i), (329, .bool t329)] w := by kernel_rfl
theorem hostm_Net_See.B8_sound {R : Bool → World → Prop}  (n : Option Addr) (s : Nat) (i : Int) (t329 : Bool) (w : World) (h : hostm_Net_See.B8 n s i t329 w   R) :
    KW Tryz.prog 33 500 (hostm_Net_See.RV R) ([(0, [1, 1, 1, 1, 1, 1, 1, 1, 0, 1]), (0, [1, 1, 1, 1, 1, 1, 1, 1, 1])].map (toItem (Tryz.f33.body.getD .skip))) [(0, .pointer n), (5, .pointer (some ⟨s, 0, none⟩)), (7, .int .i64 i), (329, .bool t329)] w := by
  exact block_spec Tryz.func33 Tryz.mixed (stops_cons (fun σ w h => by
      obtain ⟨n_, e0, h⟩ := dP_elim h
      obtain ⟨s_, e1, h⟩ := dK_elim h
      obtain ⟨i_, e2, h⟩ := dI_elim h
      exact (hostm_Net_See.B9_sound  n_ s_ i_ w h).weaken (Sub.cons (Sub.cons (Sub.cons (Sub.nil _) e2) e1) e0)) stops_nil) (Eq.mp (hostm_Net_See.B8_eq n s i t329 w   R (fun n_ s_ i_ w => hostm_Net_See.B9 n_ s_ i_ w  R)) h)
def hostm_Net_See.B7 (n : Option Addr) (s : Nat) (i : Int) (w : World)   (R : Bool → World → Prop) : Prop :=
  LdI .i64 ⟨s, 6, none⟩ w.drew fun x314 =>
  Bm (x314 != (0 : Int)) (
    LdB ⟨s, 7, none⟩ w.drew fun x319 =>
    Pn n fun a =>
    LdL a w.drew fun x323_b x323_l x323_c =>
    Pn x323_b fun a_1 =>
    (0 ≤ i ∧ i < ((x323_l : Nat) : Int)) ∧
    LdB ((Addr.add a_1 (i.toNat * 16)).add 14) w.drew fun x327 =>
    hostm_Net_See.B8 n s i (!(x319 == x327)) w.drew  R) (
    hostm_Net_See.B8 n s i false w.drew  R)
theorem hostm_Net_See.B7_eq (n : Option Addr) (s : Nat) (i : Int) (w : World)   (R : Bool → World → Prop) (sB8 : Option Addr → Nat → Int → Bool → World → Prop) :
    (
  LdI .i64 ⟨s, 6, none⟩ w.drew fun x314 =>
  Bm (x314 != (0 : Int)) (
    LdB ⟨s, 7, none⟩ w.drew fun x319 =>
    Pn n fun a =>
    LdL a w.drew fun x323_b x323_l x323_c =>
    Pn x323_b fun a_1 =>
    (0 ≤ i ∧ i < ((x323_l : Nat) : Int)) ∧
    LdB ((Addr.add a_1 (i.toNat * 16)).add 14) w.drew fun x327 =>
    sB8 n s i (!(x319 == x327)) w.drew) (
    sB8 n s i false w.drew)) = kstep Tryz.prog 500 Tryz.f33.results.toList (Tryz.f33.body.getD .skip) (hostm_Net_See.RV R) (kvc Tryz.prog 500 Tryz.f33.results.toList (Tryz.f33.body.getD .skip) (hostm_Net_See.RV R) [([(0, [1, 1, 1, 1, 1, 1, 1, 1, 0, 1]), (0, [1, 1, 1, 1, 1, 1, 1, 1, 1])], fun σ w => dP (slotOf σ 0) fun n_ => dK (slotOf σ 5) fun s_ => dI .i64 (slotOf σ 7) fun i_ => dB (slotOf σ 329) fun t329_ => sB8 n_ s_ i_ t329_ w)] 2000) [(0, [1, 1, 1, 1, 1, 1, 1, 1])] [(0, .pointer n), (5, .pointer (some ⟨s, 0, none⟩)), (7, .int .i64 i)] w := by kernel_rfl
theorem hostm_Net_See.B7_sound {R : Bool → World → Prop}  (n : Option Addr) (s : Nat) (i : Int) (w : World) (h : hostm_Net_See.B7 n s i w   R) :
    KW Tryz.prog 33 500 (hostm_Net_See.RV R) ([(0, [1, 1, 1, 1, 1, 1, 1, 1])].map (toItem (Tryz.f33.body.getD .skip))) [(0, .pointer n), (5, .pointer (some ⟨s, 0, none⟩)), (7, .int .i64 i)] w := by
  exact block_spec Tryz.func33 Tryz.mixed (stops_cons (fun σ w h => by
      obtain ⟨n_, e0, h⟩ := dP_elim h
      obtain ⟨s_, e1, h⟩ := dK_elim h
      obtain ⟨i_, e2, h⟩ := dI_elim h
      obtain ⟨t329_, e3, h⟩ := dB_elim h
      exact (hostm_Net_See.B8_sound  n_ s_ i_ t329_ w h).weaken (Sub.cons (Sub.cons (Sub.cons (Sub.cons (Sub.nil _) e3) e2) e1) e0)) stops_nil) (Eq.mp (hostm_Net_See.B7_eq n s i w   R (fun n_ s_ i_ t329_ w => hostm_Net_See.B8 n_ s_ i_ t329_ w  R)) h)
def hostm_Net_See.B6 (n : Option Addr) (s : Nat) (i : Int) (w : World)   (R : Bool → World → Prop) : Prop :=
  Pn n fun a =>
  LdL a w.drew fun x275_b x275_l x275_c =>
  Pn n fun a_1 =>
  LdL a_1 w.drew fun x280_b x280_l x280_c =>
  LdP ⟨s, 8, none⟩ w.drew fun x283 =>
  Pn x283 fun a_2 =>
  LdI .i64 a_2 w.drew fun x286 =>
  LdP ⟨s, 8, none⟩ w.drew fun x288 =>
  Pn x288 fun a_3 =>
  LdI .i64 (a_3.add 1) w.drew fun x291 =>
  Pn x275_b fun a_4 =>
  (0 ≤ i ∧ i < ((x275_l : Nat) : Int)) ∧
  Sts [.int .i64 x286] ((Addr.add a_4 (i.toNat * 16)).add 10) 0 w.drew fun w1 =>
  Pn x280_b fun a_5 =>
  (0 ≤ i ∧ i < ((x280_l : Nat) : Int)) ∧
  Sts [.int .i64 x291] ((Addr.add a_5 (i.toNat * 16)).add 11) 0 w1 fun w2 =>
  Pn n fun a_6 =>
  LdL a_6 w2 fun x299_b x299_l x299_c =>
  Pn x299_b fun a_7 =>
  (0 ≤ i ∧ i < ((x299_l : Nat) : Int)) ∧
  LdI .i64 ((Addr.add a_7 (i.toNat * 16)).add 10) w2 fun x303 =>
  Bm (x303 == (3 : Int)) (
    Pn n fun a_8 =>
    LdL a_8 w2 fun x308_b x308_l x308_c =>
    Pn x308_b fun a_9 =>
    (0 ≤ i ∧ i < ((x308_l : Nat) : Int)) ∧
    Sts [.bool true] ((Addr.add a_9 (i.toNat * 16)).add 14) 0 w2 fun w3 =>
    hostm_Net_See.B7 n s i w3  R) (
    hostm_Net_See.B7 n s i w2  R)
theorem hostm_Net_See.B6_eq (n : Option Addr) (s : Nat) (i : Int) (w : World)   (R : Bool → World → Prop) (sB7 : Option Addr → Nat → Int → World → Prop) :
    (
  Pn n fun a =>
  LdL a w.drew fun x275_b x275_l x275_c =>
  Pn n fun a_1 =>
  LdL a_1 w.drew fun x280_b x280_l x280_c =>
  LdP ⟨s, 8, none⟩ w.drew fun x283 =>
  Pn x283 fun a_2 =>
  LdI .i64 a_2 w.drew fun x286 =>
  LdP ⟨s, 8, none⟩ w.drew fun x288 =>
  Pn x288 fun a_3 =>
  LdI .i64 (a_3.add 1) w.drew fun x291 =>
  Pn x275_b fun a_4 =>
  (0 ≤ i ∧ i < ((x275_l : Nat) : Int)) ∧
  Sts [.int .i64 x286] ((Addr.add a_4 (i.toNat * 16)).add 10) 0 w.drew fun w1 =>
  Pn x280_b fun a_5 =>
  (0 ≤ i ∧ i < ((x280_l : Nat) : Int)) ∧
  Sts [.int .i64 x291] ((Addr.add a_5 (i.toNat * 16)).add 11) 0 w1 fun w2 =>
  Pn n fun a_6 =>
  LdL a_6 w2 fun x299_b x299_l x299_c =>
  Pn x299_b fun a_7 =>
  (0 ≤ i ∧ i < ((x299_l : Nat) : Int)) ∧
  LdI .i64 ((Addr.add a_7 (i.toNat * 16)).add 10) w2 fun x303 =>
  Bm (x303 == (3 : Int)) (
    Pn n fun a_8 =>
    LdL a_8 w2 fun x308_b x308_l x308_c =>
    Pn x308_b fun a_9 =>
    (0 ≤ i ∧ i < ((x308_l : Nat) : Int)) ∧
    Sts [.bool true] ((Addr.add a_9 (i.toNat * 16)).add 14) 0 w2 fun w3 =>
    sB7 n s i w3) (
    sB7 n s i w2)) = kstep Tryz.prog 500 Tryz.f33.results.toList (Tryz.f33.body.getD .skip) (hostm_Net_See.RV R) (kvc Tryz.prog 500 Tryz.f33.results.toList (Tryz.f33.body.getD .skip) (hostm_Net_See.RV R) [([(0, [1, 1, 1, 1, 1, 1, 1, 1])], fun σ w => dP (slotOf σ 0) fun n_ => dK (slotOf σ 5) fun s_ => dI .i64 (slotOf σ 7) fun i_ => sB7 n_ s_ i_ w)] 2000) [(0, [1, 1, 1, 1, 1, 1])] [(0, .pointer n), (5, .pointer (some ⟨s, 0, none⟩)), (7, .int .i64 i)] w := by kernel_rfl
theorem hostm_Net_See.B6_sound {R : Bool → World → Prop}  (n : Option Addr) (s : Nat) (i : Int) (w : World) (h : hostm_Net_See.B6 n s i w   R) :
    KW Tryz.prog 33 500 (hostm_Net_See.RV R) ([(0, [1, 1, 1, 1, 1, 1])].map (toItem (Tryz.f33.body.getD .skip))) [(0, .pointer n), (5, .pointer (some ⟨s, 0, none⟩)), (7, .int .i64 i)] w := by
  exact block_spec Tryz.func33 Tryz.mixed (stops_cons (fun σ w h => by
      obtain ⟨n_, e0, h⟩ := dP_elim h
      obtain ⟨s_, e1, h⟩ := dK_elim h
      obtain ⟨i_, e2, h⟩ := dI_elim h
      exact (hostm_Net_See.B7_sound  n_ s_ i_ w h).weaken (Sub.cons (Sub.cons (Sub.cons (Sub.nil _) e2) e1) e0)) stops_nil) (Eq.mp (hostm_Net_See.B6_eq n s i w   R (fun n_ s_ i_ w => hostm_Net_See.B7 n_ s_ i_ w  R)) h)
def hostm_Net_See.B5 (n : Option Addr) (s : Nat) (i p : Int) (t246 : Bool) (w : World)   (R : Bool → World → Prop) : Prop :=
  Bm t246 (
    R false w) (
    Pn n fun a =>
    LdL a w fun x250_b x250_l x250_c =>
    Pn x250_b fun a_1 =>
    (0 ≤ i ∧ i < ((x250_l : Nat) : Int)) ∧
    Sts [.int .i64 p] ((Addr.add a_1 (i.toNat * 16)).add 6) 0 w fun w1 =>
    hostm_Net_See.B6 n s i w1  R)
theorem hostm_Net_See.B5_eq (n : Option Addr) (s : Nat) (i p : Int) (t246 : Bool) (w : World)   (R : Bool → World → Prop) (sB6 : Option Addr → Nat → Int → World → Prop) :
    (
  Bm t246 (
    R false w) (
    Pn n fun a =>
    LdL a w fun x250_b x250_l x250_c =>
    Pn x250_b fun a_1 =>
    (0 ≤ i ∧ i < ((x250_l : Nat) : Int)) ∧
    Sts [.int .i64 p] ((Addr.add a_1 (i.toNat * 16)).add 6) 0 w fun w1 =>
    sB6 n s i w1)) = kstep Tryz.prog 500 Tryz.f33.results.toList (Tryz.f33.body.getD .skip) (hostm_Net_See.RV R) (kvc Tryz.prog 500 Tryz.f33.results.toList (Tryz.f33.body.getD .skip) (hostm_Net_See.RV R) [([(0, [1, 1, 1, 1, 1, 1])], fun σ w => dP (slotOf σ 0) fun n_ => dK (slotOf σ 5) fun s_ => dI .i64 (slotOf σ 7) fun i_ => sB6 n_ s_ i_ w)] 2000) [(0, [1, 1, 1, 1, 1, 0, 1, 0, 1, 1, 0, 1, 0, 1]), (0, [1, 1, 1, 1, 1, 0, 1, 0, 1, 1, 0, 1, 1]), (0, [1, 1, 1, 1, 1, 1])] [(0, .pointer n), (5, .pointer (some ⟨s, 0, none⟩)), (7, .int .i64 i), (10, .int .i64 p), (246, .bool t246)] w := by kernel_rfl
theorem hostm_Net_See.B5_sound {R : Bool → World → Prop}  (n : Option Addr) (s : Nat) (i p : Int) (t246 : Bool) (w : World) (h : hostm_Net_See.B5 n s i p t246 w   R) :
    KW Tryz.prog 33 500 (hostm_Net_See.RV R) ([(0, [1, 1, 1, 1, 1, 0, 1, 0, 1, 1, 0, 1, 0, 1]), (0, [1, 1, 1, 1, 1, 0, 1, 0, 1, 1, 0, 1, 1]), (0, [1, 1, 1, 1, 1, 1])].map (toItem (Tryz.f33.body.getD .skip))) [(0, .pointer n), (5, .pointer (some ⟨s, 0, none⟩)), (7, .int .i64 i), (10, .int .i64 p), (246, .bool t246)] w := by
  exact block_spec Tryz.func33 Tryz.mixed (stops_cons (fun σ w h => by
      obtain ⟨n_, e0, h⟩ := dP_elim h
      obtain ⟨s_, e1, h⟩ := dK_elim h
      obtain ⟨i_, e2, h⟩ := dI_elim h
      exact (hostm_Net_See.B6_sound  n_ s_ i_ w h).weaken (Sub.cons (Sub.cons (Sub.cons (Sub.nil _) e2) e1) e0)) stops_nil) (Eq.mp (hostm_Net_See.B5_eq n s i p t246 w   R (fun n_ s_ i_ w => hostm_Net_See.B6 n_ s_ i_ w  R)) h)
def hostm_Net_See.B4 (n : Option Addr) (host : Int) (s : Nat) (i : Int) (t188 : Bool) (w : World)   (R : Bool → World → Prop) : Prop :=
  Bm t188 (
    Pn n fun a =>
    (0 ≤ host ∧ host < ((3 : Nat) : Int)) ∧
    LdI .i64 (Addr.add (a.add 1) (host.toNat * 1)) w fun x194 =>
    Bm (x194 == (0 : Int)) (
      R false w) (
      Pn n fun a_1 =>
      LdL a_1 w fun x199_b x199_l x199_c =>
      Pn x199_b fun a_2 =>
      (0 ≤ i ∧ i < ((x199_l : Nat) : Int)) ∧
      LdB ((Addr.add a_2 (i.toNat * 16)).add 5) w fun x203 =>
      Bm x203 (
        Pn n fun a_3 =>
        LdL a_3 w.drew fun x208_b x208_l x208_c =>
        Pn x208_b fun a_4 =>
        (0 ≤ i ∧ i < ((x208_l : Nat) : Int)) ∧
        LdI .i64 ((Addr.add a_4 (i.toNat * 16)).add 3) w.drew fun x212 =>
        Pn n fun a_5 =>
        LdL a_5 w.drew fun x217_b x217_l x217_c =>
        Pn x217_b fun a_6 =>
        (0 ≤ i ∧ i < ((x217_l : Nat) : Int)) ∧
        LdI .i64 ((Addr.add a_6 (i.toNat * 16)).add 4) w.drew fun x221 =>
        Pn n fun a_7 =>
        LdL a_7 w.drew fun x227_b x227_l x227_c =>
        Pn x227_b fun a_8 =>
        (0 ≤ i ∧ i < ((x227_l : Nat) : Int)) ∧
        LdI .i64 ((Addr.add a_8 (i.toNat * 16)).add 2) w.drew fun x231 =>
        hostm_Net_latest.Call n (IntKind.i64.wrap (x212 - (1 : Int))) x221 (IntKind.i64.wrap (host + (1 : Int))) x231 false w.drew fun r232 w1 =>
        Bm (decide (r232 < (0 : Int))) (
          hostm_Net_See.B5 n s i r232 true w1  R) (
          Pn n fun a_9 =>
          LdL a_9 w1 fun x239_b x239_l x239_c =>
          Pn x239_b fun a_10 =>
          (0 ≤ r232 ∧ r232 < ((x239_l : Nat) : Int)) ∧
          LdI .i64 ((Addr.add a_10 (r232.toNat * 16)).add 6) w1 fun x243 =>
          hostm_Net_See.B5 n s i r232 (x243 != i) w1  R)) (
        Pn n fun a_11 =>
        LdL a_11 w.drew fun x258_b x258_l x258_c =>
        Pn n fun a_12 =>
        LdL a_12 w.drew fun x262_b x262_l x262_c =>
        Pn x262_b fun a_13 =>
        (0 ≤ i ∧ i < ((x262_l : Nat) : Int)) ∧
        LdI .i64 ((Addr.add a_13 (i.toNat * 16)).add 6) w.drew fun x266 =>
        Pn x258_b fun a_14 =>
        (0 ≤ x266 ∧ x266 < ((x258_l : Nat) : Int)) ∧
        LdI .i64 ((Addr.add a_14 (x266.toNat * 16)).add 6) w.drew fun x269 =>
        Bm (x269 != i) (
          R false w.drew) (
          hostm_Net_See.B6 n s i w.drew  R)))) (
    hostm_Net_See.B6 n s i w  R)
theorem hostm_Net_See.B4_eq (n : Option Addr) (host : Int) (s : Nat) (i : Int) (t188 : Bool) (w : World)   (R : Bool → World → Prop) (sB5 : Option Addr → Nat → Int → Int → Bool → World → Prop) (sB6 : Option Addr → Nat → Int → World → Prop) :
    (
  Bm t188 (
    Pn n fun a =>
    (0 ≤ host ∧ host < ((3 : Nat) : Int)) ∧
    LdI .i64 (Addr.add (a.add 1) (host.toNat * 1)) w fun x194 =>
    Bm (x194 == (0 : Int)) (
      R false w) (
      Pn n fun a_1 =>
      LdL a_1 w fun x199_b x199_l x199_c =>
      Pn x199_b fun a_2 =>
      (0 ≤ i ∧ i < ((x199_l : Nat) : Int)) ∧
      LdB ((Addr.add a_2 (i.toNat * 16)).add 5) w fun x203 =>
      Bm x203 (
        Pn n fun a_3 =>
        LdL a_3 w.drew fun x208_b x208_l x208_c =>
        Pn x208_b fun a_4 =>
        (0 ≤ i ∧ i < ((x208_l : Nat) : Int)) ∧
        LdI .i64 ((Addr.add a_4 (i.toNat * 16)).add 3) w.drew fun x212 =>
        Pn n fun a_5 =>
        LdL a_5 w.drew fun x217_b x217_l x217_c =>
        Pn x217_b fun a_6 =>
        (0 ≤ i ∧ i < ((x217_l : Nat) : Int)) ∧
        LdI .i64 ((Addr.add a_6 (i.toNat * 16)).add 4) w.drew fun x221 =>
        Pn n fun a_7 =>
        LdL a_7 w.drew fun x227_b x227_l x227_c =>
        Pn x227_b fun a_8 =>
        (0 ≤ i ∧ i < ((x227_l : Nat) : Int)) ∧
        LdI .i64 ((Addr.add a_8 (i.toNat * 16)).add 2) w.drew fun x231 =>
        hostm_Net_latest.Call n (IntKind.i64.wrap (x212 - (1 : Int))) x221 (IntKind.i64.wrap (host + (1 : Int))) x231 false w.drew fun r232 w1 =>
        Bm (decide (r232 < (0 : Int))) (
          sB5 n s i r232 true w1) (
          Pn n fun a_9 =>
          LdL a_9 w1 fun x239_b x239_l x239_c =>
          Pn x239_b fun a_10 =>
          (0 ≤ r232 ∧ r232 < ((x239_l : Nat) : Int)) ∧
          LdI .i64 ((Addr.add a_10 (r232.toNat * 16)).add 6) w1 fun x243 =>
          sB5 n s i r232 (x243 != i) w1)) (
        Pn n fun a_11 =>
        LdL a_11 w.drew fun x258_b x258_l x258_c =>
        Pn n fun a_12 =>
        LdL a_12 w.drew fun x262_b x262_l x262_c =>
        Pn x262_b fun a_13 =>
        (0 ≤ i ∧ i < ((x262_l : Nat) : Int)) ∧
        LdI .i64 ((Addr.add a_13 (i.toNat * 16)).add 6) w.drew fun x266 =>
        Pn x258_b fun a_14 =>
        (0 ≤ x266 ∧ x266 < ((x258_l : Nat) : Int)) ∧
        LdI .i64 ((Addr.add a_14 (x266.toNat * 16)).add 6) w.drew fun x269 =>
        Bm (x269 != i) (
          R false w.drew) (
          sB6 n s i w.drew)))) (
    sB6 n s i w)) = kstep Tryz.prog 500 Tryz.f33.results.toList (Tryz.f33.body.getD .skip) (hostm_Net_See.RV R) (kvc Tryz.prog 500 Tryz.f33.results.toList (Tryz.f33.body.getD .skip) (hostm_Net_See.RV R) [([(0, [1, 1, 1, 1, 1, 0, 1, 0, 1, 1, 0, 1, 0, 1]), (0, [1, 1, 1, 1, 1, 0, 1, 0, 1, 1, 0, 1, 1]), (0, [1, 1, 1, 1, 1, 1])], fun σ w => dP (slotOf σ 0) fun n_ => dK (slotOf σ 5) fun s_ => dI .i64 (slotOf σ 7) fun i_ => dI .i64 (slotOf σ 10) fun p_ => dB (slotOf σ 246) fun t246_ => sB5 n_ s_ i_ p_ t246_ w),
    ([(0, [1, 1, 1, 1, 1, 1])], fun σ w => dP (slotOf σ 0) fun n_ => dK (slotOf σ 5) fun s_ => dI .i64 (slotOf σ 7) fun i_ => sB6 n_ s_ i_ w)] 2000) [(0, [1, 1, 1, 1, 1, 0, 1]), (0, [1, 1, 1, 1, 1, 1])] [(0, .pointer n), (1, .int .i64 host), (5, .pointer (some ⟨s, 0, none⟩)), (7, .int .i64 i), (188, .bool t188)] w := by kernel_rfl
theorem hostm_Net_See.B4_sound {R : Bool → World → Prop}  (n : Option Addr) (host : Int) (s : Nat) (i : Int) (t188 : Bool) (w : World) (h : hostm_Net_See.B4 n host s i t188 w   R) :
    KW Tryz.prog 33 500 (hostm_Net_See.RV R) ([(0, [1, 1, 1, 1, 1, 0, 1]), (0, [1, 1, 1, 1, 1, 1])].map (toItem (Tryz.f33.body.getD .skip))) [(0, .pointer n), (1, .int .i64 host), (5, .pointer (some ⟨s, 0, none⟩)), (7, .int .i64 i), (188, .bool t188)] w := by
  exact block_spec Tryz.func33 Tryz.mixed (stops_cons (fun σ w h => by
      obtain ⟨n_, e0, h⟩ := dP_elim h
      obtain ⟨s_, e1, h⟩ := dK_elim h
      obtain ⟨i_, e2, h⟩ := dI_elim h
      obtain ⟨p_, e3, h⟩ := dI_elim h
      obtain ⟨t246_, e4, h⟩ := dB_elim h
      exact (hostm_Net_See.B5_sound  n_ s_ i_ p_ t246_ w h).weaken (Sub.cons (Sub.cons (Sub.cons (Sub.cons (Sub.cons (Sub.nil _) e4) e3) e2) e1) e0)) (stops_cons (fun σ w h => by
      obtain ⟨n_, e0, h⟩ := dP_elim h
      obtain ⟨s_, e1, h⟩ := dK_elim h
      obtain ⟨i_, e2, h⟩ := dI_elim h
      exact (hostm_Net_See.B6_sound  n_ s_ i_ w h).weaken (Sub.cons (Sub.cons (Sub.cons (Sub.nil _) e2) e1) e0)) stops_nil)) (Eq.mp (hostm_Net_See.B4_eq n host s i t188 w   R (fun n_ s_ i_ p_ t246_ w => hostm_Net_See.B5 n_ s_ i_ p_ t246_ w  R) (fun n_ s_ i_ w => hostm_Net_See.B6 n_ s_ i_ w  R)) h)
def hostm_Net_See.B3 (n : Option Addr) (host : Int) (s : Nat) (i : Int) (t171 : Bool) (w : World)   (R : Bool → World → Prop) : Prop :=
  Bm t171 (
    R false w) (
    Pn n fun a =>
    LdL a w fun x175_b x175_l x175_c =>
    Pn x175_b fun a_1 =>
    (0 ≤ i ∧ i < ((x175_l : Nat) : Int)) ∧
    LdI .i64 ((Addr.add a_1 (i.toNat * 16)).add 10) w fun x179 =>
    Bm (x179 != (3 : Int)) (
      LdP ⟨s, 8, none⟩ w fun x183 =>
      Pn x183 fun a_2 =>
      LdI .i64 a_2 w fun x186 =>
      hostm_Net_See.B4 n host s i (x186 == (3 : Int)) w  R) (
      hostm_Net_See.B4 n host s i false w  R))
theorem hostm_Net_See.B3_eq (n : Option Addr) (host : Int) (s : Nat) (i : Int) (t171 : Bool) (w : World)   (R : Bool → World → Prop) (sB4 : Option Addr → Int → Nat → Int → Bool → World → Prop) :
    (
  Bm t171 (
    R false w) (
    Pn n fun a =>
    LdL a w fun x175_b x175_l x175_c =>
    Pn x175_b fun a_1 =>
    (0 ≤ i ∧ i < ((x175_l : Nat) : Int)) ∧
    LdI .i64 ((Addr.add a_1 (i.toNat * 16)).add 10) w fun x179 =>
    Bm (x179 != (3 : Int)) (
      LdP ⟨s, 8, none⟩ w fun x183 =>
      Pn x183 fun a_2 =>
      LdI .i64 a_2 w fun x186 =>
      sB4 n host s i (x186 == (3 : Int)) w) (
      sB4 n host s i false w))) = kstep Tryz.prog 500 Tryz.f33.results.toList (Tryz.f33.body.getD .skip) (hostm_Net_See.RV R) (kvc Tryz.prog 500 Tryz.f33.results.toList (Tryz.f33.body.getD .skip) (hostm_Net_See.RV R) [([(0, [1, 1, 1, 1, 1, 0, 1]), (0, [1, 1, 1, 1, 1, 1])], fun σ w => dP (slotOf σ 0) fun n_ => dI .i64 (slotOf σ 1) fun host_ => dK (slotOf σ 5) fun s_ => dI .i64 (slotOf σ 7) fun i_ => dB (slotOf σ 188) fun t188_ => sB4 n_ host_ s_ i_ t188_ w)] 2000) [(0, [1, 1, 1, 1, 0, 1]), (0, [1, 1, 1, 1, 1])] [(0, .pointer n), (1, .int .i64 host), (5, .pointer (some ⟨s, 0, none⟩)), (7, .int .i64 i), (171, .bool t171)] w := by kernel_rfl
theorem hostm_Net_See.B3_sound {R : Bool → World → Prop}  (n : Option Addr) (host : Int) (s : Nat) (i : Int) (t171 : Bool) (w : World) (h : hostm_Net_See.B3 n host s i t171 w   R) :
    KW Tryz.prog 33 500 (hostm_Net_See.RV R) ([(0, [1, 1, 1, 1, 0, 1]), (0, [1, 1, 1, 1, 1])].map (toItem (Tryz.f33.body.getD .skip))) [(0, .pointer n), (1, .int .i64 host), (5, .pointer (some ⟨s, 0, none⟩)), (7, .int .i64 i), (171, .bool t171)] w := by
  exact block_spec Tryz.func33 Tryz.mixed (stops_cons (fun σ w h => by
      obtain ⟨n_, e0, h⟩ := dP_elim h
      obtain ⟨host_, e1, h⟩ := dI_elim h
      obtain ⟨s_, e2, h⟩ := dK_elim h
      obtain ⟨i_, e3, h⟩ := dI_elim h
      obtain ⟨t188_, e4, h⟩ := dB_elim h
      exact (hostm_Net_See.B4_sound  n_ host_ s_ i_ t188_ w h).weaken (Sub.cons (Sub.cons (Sub.cons (Sub.cons (Sub.cons (Sub.nil _) e4) e3) e2) e1) e0)) stops_nil) (Eq.mp (hostm_Net_See.B3_eq n host s i t171 w   R (fun n_ host_ s_ i_ t188_ w => hostm_Net_See.B4 n_ host_ s_ i_ t188_ w  R)) h)
def hostm_Net_See.B1 (n : Option Addr) (host : Int) (s : Nat) (t16 : Bool) (w : World)   (R : Bool → World → Prop) : Prop :=
  Bm t16 (
    R false w) (
    LdI .i64 ⟨s, 0, none⟩ w fun x21 =>
    hostm_Net_Find.Call n host x21 w fun r22 w1 =>
    Bm (decide (r22 < (0 : Int))) (
      LdI .i64 ⟨s, 3, none⟩ w1 fun x27 =>
      Bm (decide ((IntKind.i64.wrap (x27 - (1 : Int))) < (0 : Int))) (
        hostm_Net_See.B2 n host s (IntKind.i64.wrap (x27 - (1 : Int))) true w1  R) (
        Bm (decide ((IntKind.i64.wrap (x27 - (1 : Int))) ≥ (3 : Int))) (
          hostm_Net_See.B2 n host s (IntKind.i64.wrap (x27 - (1 : Int))) true w1  R) (
          Pn n fun a =>
          (0 ≤ host ∧ host < ((3 : Nat) : Int)) ∧
          LdI .i64 (Addr.add (a.add 1) (host.toNat * 1)) w1 fun x41 =>
          Bm (x41 == (0 : Int)) (
            hostm_Net_See.B2 n host s (IntKind.i64.wrap (x27 - (1 : Int))) true w1  R) (
            LdP ⟨s, 8, none⟩ w1 fun x46 =>
            Pn x46 fun a_1 =>
            LdI .i64 a_1 w1 fun x49 =>
            Bm (x49 != (2 : Int)) (
              hostm_Net_See.B2 n host s (IntKind.i64.wrap (x27 - (1 : Int))) true w1  R) (
              LdI .i64 ⟨s, 6, none⟩ w1 fun x55 =>
              Bm (x55 == (0 : Int)) (
                hostm_Net_See.B2 n host s (IntKind.i64.wrap (x27 - (1 : Int))) true w1  R) (
                LdB ⟨s, 7, none⟩ w1 fun x61 =>
                hostm_Net_See.B2 n host s (IntKind.i64.wrap (x27 - (1 : Int))) x61 w1  R)))))) (
      Pn n fun a_2 =>
      LdL a_2 w1.drew fun x103_b x103_l x103_c =>
      Pn x103_b fun a_3 =>
      (0 ≤ r22 ∧ r22 < ((x103_l : Nat) : Int)) ∧
      LdB ((Addr.add a_3 (r22.toNat * 16)).add 15) w1.drew fun x107 =>
      Bm x107 (
        hostm_Net_See.B3 n host s r22 true w1.drew  R) (
        Pn n fun a_4 =>
        LdL a_4 w1.drew fun x112_b x112_l x112_c =>
        Pn x112_b fun a_5 =>
        (0 ≤ r22 ∧ r22 < ((x112_l : Nat) : Int)) ∧
        LdI .i64 ((Addr.add a_5 (r22.toNat * 16)).add 10) w1.drew fun x116 =>
        LdP ⟨s, 8, none⟩ w1.drew fun x118 =>
        Pn x118 fun a_6 =>
        LdI .i64 a_6 w1.drew fun x121 =>
        hostm_MayStep.Call x116 x121 w1.drew fun r122 w2 =>
        Bm (!r122) (
          hostm_Net_See.B3 n host s r22 true w2  R) (
          Pn n fun a_7 =>
          LdL a_7 w2 fun x129_b x129_l x129_c =>
          Pn x129_b fun a_8 =>
          (0 ≤ r22 ∧ r22 < ((x129_l : Nat) : Int)) ∧
          LdI .i64 ((Addr.add a_8 (r22.toNat * 16)).add 10) w2 fun x133 =>
          Bm (x133 == (4 : Int)) (
            Pn n fun a_9 =>
            LdL a_9 w2 fun x139_b x139_l x139_c =>
            Pn x139_b fun a_10 =>
            (0 ≤ r22 ∧ r22 < ((x139_l : Nat) : Int)) ∧
            LdI .i64 ((Addr.add a_10 (r22.toNat * 16)).add 11) w2 fun x143 =>
            LdP ⟨s, 8, none⟩ w2 fun x145 =>
            Pn x145 fun a_11 =>
            LdI .i64 (a_11.add 1) w2 fun x148 =>
            Bm (x143 != x148) (
              Pn n fun a_12 =>
              LdL a_12 w2 fun x155_b x155_l x155_c =>
              Pn x155_b fun a_13 =>
              (0 ≤ r22 ∧ r22 < ((x155_l : Nat) : Int)) ∧
              LdI .i64 ((Addr.add a_13 (r22.toNat * 16)).add 11) w2 fun x159 =>
              Bm (x159 == (0 : Int)) (
                LdP ⟨s, 8, none⟩ w2 fun x163 =>
                Pn x163 fun a_14 =>
                LdI .i64 (a_14.add 1) w2 fun x166 =>
                hostm_Net_See.B3 n host s r22 (!(x166 == (20 : Int))) w2  R) (
                hostm_Net_See.B3 n host s r22 true w2  R)) (
              hostm_Net_See.B3 n host s r22 false w2  R)) (
            hostm_Net_See.B3 n host s r22 false w2  R)))))
theorem hostm_Net_See.B1_eq (n : Option Addr) (host : Int) (s : Nat) (t16 : Bool) (w : World)   (R : Bool → World → Prop) (sB2 : Option Addr → Int → Nat → Int → Bool → World → Prop) (sB3 : Option Addr → Int → Nat → Int → Bool → World → Prop) :
    (
  Bm t16 (
    R false w) (
    LdI .i64 ⟨s, 0, none⟩ w fun x21 =>
    hostm_Net_Find.Call n host x21 w fun r22 w1 =>
    Bm (decide (r22 < (0 : Int))) (
      LdI .i64 ⟨s, 3, none⟩ w1 fun x27 =>
      Bm (decide ((IntKind.i64.wrap (x27 - (1 : Int))) < (0 : Int))) (
        sB2 n host s (IntKind.i64.wrap (x27 - (1 : Int))) true w1) (
        Bm (decide ((IntKind.i64.wrap (x27 - (1 : Int))) ≥ (3 : Int))) (
          sB2 n host s (IntKind.i64.wrap (x27 - (1 : Int))) true w1) (
          Pn n fun a =>
          (0 ≤ host ∧ host < ((3 : Nat) : Int)) ∧
          LdI .i64 (Addr.add (a.add 1) (host.toNat * 1)) w1 fun x41 =>
          Bm (x41 == (0 : Int)) (
            sB2 n host s (IntKind.i64.wrap (x27 - (1 : Int))) true w1) (
            LdP ⟨s, 8, none⟩ w1 fun x46 =>
            Pn x46 fun a_1 =>
            LdI .i64 a_1 w1 fun x49 =>
            Bm (x49 != (2 : Int)) (
              sB2 n host s (IntKind.i64.wrap (x27 - (1 : Int))) true w1) (
              LdI .i64 ⟨s, 6, none⟩ w1 fun x55 =>
              Bm (x55 == (0 : Int)) (
                sB2 n host s (IntKind.i64.wrap (x27 - (1 : Int))) true w1) (
                LdB ⟨s, 7, none⟩ w1 fun x61 =>
                sB2 n host s (IntKind.i64.wrap (x27 - (1 : Int))) x61 w1)))))) (
      Pn n fun a_2 =>
      LdL a_2 w1.drew fun x103_b x103_l x103_c =>
      Pn x103_b fun a_3 =>
      (0 ≤ r22 ∧ r22 < ((x103_l : Nat) : Int)) ∧
      LdB ((Addr.add a_3 (r22.toNat * 16)).add 15) w1.drew fun x107 =>
      Bm x107 (
        sB3 n host s r22 true w1.drew) (
        Pn n fun a_4 =>
        LdL a_4 w1.drew fun x112_b x112_l x112_c =>
        Pn x112_b fun a_5 =>
        (0 ≤ r22 ∧ r22 < ((x112_l : Nat) : Int)) ∧
        LdI .i64 ((Addr.add a_5 (r22.toNat * 16)).add 10) w1.drew fun x116 =>
        LdP ⟨s, 8, none⟩ w1.drew fun x118 =>
        Pn x118 fun a_6 =>
        LdI .i64 a_6 w1.drew fun x121 =>
        hostm_MayStep.Call x116 x121 w1.drew fun r122 w2 =>
        Bm (!r122) (
          sB3 n host s r22 true w2) (
          Pn n fun a_7 =>
          LdL a_7 w2 fun x129_b x129_l x129_c =>
          Pn x129_b fun a_8 =>
          (0 ≤ r22 ∧ r22 < ((x129_l : Nat) : Int)) ∧
          LdI .i64 ((Addr.add a_8 (r22.toNat * 16)).add 10) w2 fun x133 =>
          Bm (x133 == (4 : Int)) (
            Pn n fun a_9 =>
            LdL a_9 w2 fun x139_b x139_l x139_c =>
            Pn x139_b fun a_10 =>
            (0 ≤ r22 ∧ r22 < ((x139_l : Nat) : Int)) ∧
            LdI .i64 ((Addr.add a_10 (r22.toNat * 16)).add 11) w2 fun x143 =>
            LdP ⟨s, 8, none⟩ w2 fun x145 =>
            Pn x145 fun a_11 =>
            LdI .i64 (a_11.add 1) w2 fun x148 =>
            Bm (x143 != x148) (
              Pn n fun a_12 =>
              LdL a_12 w2 fun x155_b x155_l x155_c =>
              Pn x155_b fun a_13 =>
              (0 ≤ r22 ∧ r22 < ((x155_l : Nat) : Int)) ∧
              LdI .i64 ((Addr.add a_13 (r22.toNat * 16)).add 11) w2 fun x159 =>
              Bm (x159 == (0 : Int)) (
                LdP ⟨s, 8, none⟩ w2 fun x163 =>
                Pn x163 fun a_14 =>
                LdI .i64 (a_14.add 1) w2 fun x166 =>
                sB3 n host s r22 (!(x166 == (20 : Int))) w2) (
                sB3 n host s r22 true w2)) (
              sB3 n host s r22 false w2)) (
            sB3 n host s r22 false w2)))))) = kstep Tryz.prog 500 Tryz.f33.results.toList (Tryz.f33.body.getD .skip) (hostm_Net_See.RV R) (kvc Tryz.prog 500 Tryz.f33.results.toList (Tryz.f33.body.getD .skip) (hostm_Net_See.RV R) [([(0, [1, 1, 1, 0, 1, 0, 1, 0, 1]), (0, [1, 1, 1, 0, 1, 0, 1, 1]), (0, [1, 1, 1, 1])], fun σ w => dP (slotOf σ 0) fun n_ => dI .i64 (slotOf σ 1) fun host_ => dK (slotOf σ 5) fun s_ => dI .i64 (slotOf σ 8) fun rh_ => dB (slotOf σ 62) fun t62_ => sB2 n_ host_ s_ rh_ t62_ w),
    ([(0, [1, 1, 1, 1, 0, 1]), (0, [1, 1, 1, 1, 1])], fun σ w => dP (slotOf σ 0) fun n_ => dI .i64 (slotOf σ 1) fun host_ => dK (slotOf σ 5) fun s_ => dI .i64 (slotOf σ 7) fun i_ => dB (slotOf σ 171) fun t171_ => sB3 n_ host_ s_ i_ t171_ w)] 2000) [(0, [1, 0, 1]), (0, [1, 1])] [(0, .pointer n), (1, .int .i64 host), (5, .pointer (some ⟨s, 0, none⟩)), (16, .bool t16)] w := by kernel_rfl
theorem hostm_Net_See.B1_sound {R : Bool → World → Prop}  (n : Option Addr) (host : Int) (s : Nat) (t16 : Bool) (w : World) (h : hostm_Net_See.B1 n host s t16 w   R) :
    KW Tryz.prog 33 500 (hostm_Net_See.RV R) ([(0, [1, 0, 1]), (0, [1, 1])].map (toItem (Tryz.f33.body.getD .skip))) [(0, .pointer n), (1, .int .i64 host), (5, .pointer (some ⟨s, 0, none⟩)), (16, .bool t16)] w := by
  exact block_spec Tryz.func33 Tryz.mixed (stops_cons (fun σ w h => by
      obtain ⟨n_, e0, h⟩ := dP_elim h
      obtain ⟨host_, e1, h⟩ := dI_elim h
      obtain ⟨s_, e2, h⟩ := dK_elim h
      obtain ⟨rh_, e3, h⟩ := dI_elim h
      obtain ⟨t62_, e4, h⟩ := dB_elim h
      exact (hostm_Net_See.B2_sound  n_ host_ s_ rh_ t62_ w h).weaken (Sub.cons (Sub.cons (Sub.cons (Sub.cons (Sub.cons (Sub.nil _) e4) e3) e2) e1) e0)) (stops_cons (fun σ w h => by
      obtain ⟨n_, e0, h⟩ := dP_elim h
      obtain ⟨host_, e1, h⟩ := dI_elim h
      obtain ⟨s_, e2, h⟩ := dK_elim h
      obtain ⟨i_, e3, h⟩ := dI_elim h
      obtain ⟨t171_, e4, h⟩ := dB_elim h
      exact (hostm_Net_See.B3_sound  n_ host_ s_ i_ t171_ w h).weaken (Sub.cons (Sub.cons (Sub.cons (Sub.cons (Sub.cons (Sub.nil _) e4) e3) e2) e1) e0)) stops_nil)) (Eq.mp (hostm_Net_See.B1_eq n host s t16 w   R (fun n_ host_ s_ rh_ t62_ w => hostm_Net_See.B2 n_ host_ s_ rh_ t62_ w  R) (fun n_ host_ s_ i_ t171_ w => hostm_Net_See.B3 n_ host_ s_ i_ t171_ w  R)) h)
def hostm_Net_See.B0 (n : Option Addr) (host s_0 s_1 s_2 s_3 s_4 s_5 s_6 : Int) (s_7 : Bool) (s_8 : Option Addr) (w : World)   (R : Bool → World → Prop) : Prop :=
  New (.cells #[.int .i64 s_0, .int .i64 s_1, .int .i64 s_2, .int .i64 s_3, .int .i64 s_4, .int .i64 s_5, .int .i64 s_6, .bool s_7, .pointer s_8] 69) w fun s_ w1 =>
  Bm (decide (host < (0 : Int))) (
    hostm_Net_See.B1 n host s_ true w1  R) (
    hostm_Net_See.B1 n host s_ (decide (host ≥ (3 : Int))) w1  R)
theorem hostm_Net_See.B0_eq (n : Option Addr) (host s_0 s_1 s_2 s_3 s_4 s_5 s_6 : Int) (s_7 : Bool) (s_8 : Option Addr) (w : World)   (R : Bool → World → Prop) (sB1 : Option Addr → Int → Nat → Bool → World → Prop) :
    (
  New (.cells #[.int .i64 s_0, .int .i64 s_1, .int .i64 s_2, .int .i64 s_3, .int .i64 s_4, .int .i64 s_5, .int .i64 s_6, .bool s_7, .pointer s_8] 69) w fun s_ w1 =>
  Bm (decide (host < (0 : Int))) (
    sB1 n host s_ true w1) (
    sB1 n host s_ (decide (host ≥ (3 : Int))) w1)) = kstep Tryz.prog 500 Tryz.f33.results.toList (Tryz.f33.body.getD .skip) (hostm_Net_See.RV R) (kvc Tryz.prog 500 Tryz.f33.results.toList (Tryz.f33.body.getD .skip) (hostm_Net_See.RV R) [([(0, [1, 0, 1]), (0, [1, 1])], fun σ w => dP (slotOf σ 0) fun n_ => dI .i64 (slotOf σ 1) fun host_ => dK (slotOf σ 5) fun s_ => dB (slotOf σ 16) fun t16_ => sB1 n_ host_ s_ t16_ w)] 2000) [(0, [])] [(0, .pointer n), (1, .int .i64 host), (2, .agg #[.int .i64 s_0, .int .i64 s_1, .int .i64 s_2, .int .i64 s_3, .int .i64 s_4, .int .i64 s_5, .int .i64 s_6, .bool s_7, .pointer s_8])] w := by kernel_rfl
theorem hostm_Net_See.B0_sound {R : Bool → World → Prop}  (n : Option Addr) (host s_0 s_1 s_2 s_3 s_4 s_5 s_6 : Int) (s_7 : Bool) (s_8 : Option Addr) (w : World) (h : hostm_Net_See.B0 n host s_0 s_1 s_2 s_3 s_4 s_5 s_6 s_7 s_8 w   R) :
    KW Tryz.prog 33 500 (hostm_Net_See.RV R) ([(0, [])].map (toItem (Tryz.f33.body.getD .skip))) [(0, .pointer n), (1, .int .i64 host), (2, .agg #[.int .i64 s_0, .int .i64 s_1, .int .i64 s_2, .int .i64 s_3, .int .i64 s_4, .int .i64 s_5, .int .i64 s_6, .bool s_7, .pointer s_8])] w := by
  exact block_spec Tryz.func33 Tryz.mixed (stops_cons (fun σ w h => by
      obtain ⟨n_, e0, h⟩ := dP_elim h
      obtain ⟨host_, e1, h⟩ := dI_elim h
      obtain ⟨s_, e2, h⟩ := dK_elim h
      obtain ⟨t16_, e3, h⟩ := dB_elim h
      exact (hostm_Net_See.B1_sound  n_ host_ s_ t16_ w h).weaken (Sub.cons (Sub.cons (Sub.cons (Sub.cons (Sub.nil _) e3) e2) e1) e0)) stops_nil) (Eq.mp (hostm_Net_See.B0_eq n host s_0 s_1 s_2 s_3 s_4 s_5 s_6 s_7 s_8 w   R (fun n_ host_ s_ t16_ w => hostm_Net_See.B1 n_ host_ s_ t16_ w  R)) h)
theorem hostm_Net_See.sound (n : Option Addr) (host s_0 s_1 s_2 s_3 s_4 s_5 s_6 : Int) (s_7 : Bool) (s_8 : Option Addr) (w : World) (R : Bool → World → Prop) (h : hostm_Net_See.B0 n host s_0 s_1 s_2 s_3 s_4 s_5 s_6 s_7 s_8 w R) : hostm_Net_See.Call n host s_0 s_1 s_2 s_3 s_4 s_5 s_6 s_7 s_8 w R := by
  have hc := calls_of_block (args := #[.pointer n, .int .i64 host, .agg #[.int .i64 s_0, .int .i64 s_1, .int .i64 s_2, .int .i64 s_3, .int .i64 s_4, .int .i64 s_5, .int .i64 s_6, .bool s_7, .pointer s_8]]) Tryz.func33 (body := (Tryz.f33.body.getD .skip)) (by kernel_rfl) (by kernel_rfl) (args_slot _) (hostm_Net_See.B0_sound n host s_0 s_1 s_2 s_3 s_4 s_5 s_6 s_7 s_8 w h)
  exact hc.mono fun e w' he => by
    obtain ⟨v, rfl, hv⟩ := he
    exact hostm_Net_See.RV_elim hv
end Go.Proofs.Qxb6500424aGreat
