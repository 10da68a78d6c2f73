import Derived.Test.Qxb6500430aGreatSig
set_option maxRecDepth 100000
set_option linter.unusedVariables false
open Go.Vc
namespace Go.Proofs.Qxb6500430aGreat
def elect_Elect_Tick.B0 (e : Option Addr) (w : World)   (R : Int → World → Prop) : Prop :=
  elect_Elect_Role.Call e w fun r5 w1 =>
  elect_turn.Call r5 (0 : Int) w1 fun r7 w2 =>
  Bm (decide (r7 < (0 : Int))) (
    R (2 : Int) w2) (
    Pn e fun a =>
    LdI .i64 (a.add 4) w2 fun x13 =>
    Pn e fun a_1 =>
    Sts [.int .i64 (IntKind.i64.wrap (x13 + (1 : Int)))] (a_1.add 4) 0 w2 fun w3 =>
    Pn e fun a_2 =>
    LdI .i64 (a_2.add 4) w3.drew fun x20 =>
    Pn e fun a_3 =>
    LdI .i64 (a_3.add 5) w3.drew fun x24 =>
    Bm (decide (x20 < x24)) (
      R (0 : Int) w3.drew) (
      elect_Elect_wind.Call e w3.drew fun w4 =>
      Pn e fun a_4 =>
      LdI .i64 (a_4.add 1) w4 fun x31 =>
      Bm (decide (x31 ≥ (72057594037927936 : Int))) (
        R (0 : Int) w4) (
        Pn e fun a_5 =>
        LdI .i64 (a_5.add 1) w4.drew fun x38 =>
        Pn e fun a_6 =>
        LdI .i64 a_6 w4.drew fun x43 =>
        elect_bit.Call x43 w4.drew fun r44 w5 =>
        w5.cell? (a_5.add 1) = some (.int .i64 x38) ∧
        Pn e fun a_7 =>
        Sts [.int .i64 (IntKind.i64.wrap (x38 + (1 : Int)))] (a_7.add 1) 0 w5 fun w6 =>
        Pn e fun a_8 =>
        Sts [.int .i64 r44] (a_8.add 3) 0 w6 fun w7 =>
        Pn e fun a_9 =>
        LdI .i64 a_9 w7 fun x54 =>
        elect_Elect_put.Call e r7 x54 (-1 : Int) w7 fun w8 =>
        R (1 : Int) w8)))
theorem elect_Elect_Tick.B0_eq (e : Option Addr) (w : World)   (R : Int → World → Prop)  :
    (
  elect_Elect_Role.Call e w fun r5 w1 =>
  elect_turn.Call r5 (0 : Int) w1 fun r7 w2 =>
  Bm (decide (r7 < (0 : Int))) (
    R (2 : Int) w2) (
    Pn e fun a =>
    LdI .i64 (a.add 4) w2 fun x13 =>
    Pn e fun a_1 =>
    Sts [.int .i64 (IntKind.i64.wrap (x13 + (1 : Int)))] (a_1.add 4) 0 w2 fun w3 =>
    Pn e fun a_2 =>
    LdI .i64 (a_2.add 4) w3.drew fun x20 =>
    Pn e fun a_3 =>
    LdI .i64 (a_3.add 5) w3.drew fun x24 =>
    Bm (decide (x20 < x24)) (
      R (0 : Int) w3.drew) (
      elect_Elect_wind.Call e w3.drew fun w4 =>
      Pn e fun a_4 =>
      LdI .i64 (a_4.add 1) w4 fun x31 =>
      Bm (decide (x31 ≥ (72057594037927936 : Int))) (
        R (0 : Int) w4) (
        Pn e fun a_5 =>
        LdI .i64 (a_5.add 1) w4.drew fun x38 =>
        Pn e fun a_6 =>
        LdI .i64 a_6 w4.drew fun x43 =>
        elect_bit.Call x43 w4.drew fun r44 w5 =>
        w5.cell? (a_5.add 1) = some (.int .i64 x38) ∧
        Pn e fun a_7 =>
        Sts [.int .i64 (IntKind.i64.wrap (x38 + (1 : Int)))] (a_7.add 1) 0 w5 fun w6 =>
        Pn e fun a_8 =>
        Sts [.int .i64 r44] (a_8.add 3) 0 w6 fun w7 =>
        Pn e fun a_9 =>
        LdI .i64 a_9 w7 fun x54 =>
        elect_Elect_put.Call e r7 x54 (-1 : Int) w7 fun w8 =>
        R (1 : Int) w8)))) = kstep Tryz.prog 56 Tryz.f139.results.toList (Tryz.f139.body.getD .skip) (elect_Elect_Tick.RV R) (kvc Tryz.prog 56 Tryz.f139.results.toList (Tryz.f139.body.getD .skip) (elect_Elect_Tick.RV R) [] 2000) [(0, [])] [(0, .pointer e)] w := by kernel_rfl
theorem elect_Elect_Tick.B0_sound {R : Int → World → Prop}  (e : Option Addr) (w : World) (h : elect_Elect_Tick.B0 e w   R) :
    KW Tryz.prog 139 56 (elect_Elect_Tick.RV R) ([(0, [])].map (toItem (Tryz.f139.body.getD .skip))) [(0, .pointer e)] w := by
  exact block_spec Tryz.func139 Tryz.mixed stops_nil (Eq.mp (elect_Elect_Tick.B0_eq e w   R ) h)
theorem elect_Elect_Tick.sound (e : Option Addr) (w : World) (R : Int → World → Prop) (h : elect_Elect_Tick.B0 e w R) : elect_Elect_Tick.Call e w R := by
  have hc := calls_of_block (args := #[.pointer e]) Tryz.func139 (body := (Tryz.f139.body.getD .skip)) (by kernel_rfl) (by kernel_rfl) (args_slot _) (elect_Elect_Tick.B0_sound e w h)
  exact hc.mono fun e w' he => by
    obtain ⟨v, rfl, hv⟩ := he
    exact elect_Elect_Tick.RV_elim hv
def sync_Sync_persist.B1 (s : Option Addr) (t v : Int) (t33 : Bool) (w : World)   (R : World → Prop) : Prop :=
  Bm t33 (
    Pn s fun a =>
    LdP a w fun x37 =>
    rlog_Log_SetTerm.Call x37 t v w fun r40 w1 =>
    R  w1) (
    R  w)
theorem sync_Sync_persist.B1_eq (s : Option Addr) (t v : Int) (t33 : Bool) (w : World)   (R : World → Prop)  :
    (
  Bm t33 (
    Pn s fun a =>
    LdP a w fun x37 =>
    rlog_Log_SetTerm.Call x37 t v w fun r40 w1 =>
    R  w1) (
    R  w)) = kstep Tryz.prog 41 Tryz.f140.results.toList (Tryz.f140.body.getD .skip) (sync_Sync_persist.RV R) (kvc Tryz.prog 41 Tryz.f140.results.toList (Tryz.f140.body.getD .skip) (sync_Sync_persist.RV R) [] 2000) [(0, [1, 1, 1, 1, 1])] [(0, .pointer s), (2, .int .i64 t), (3, .int .i64 v), (33, .bool t33)] w := by kernel_rfl
theorem sync_Sync_persist.B1_sound {R : World → Prop}  (s : Option Addr) (t v : Int) (t33 : Bool) (w : World) (h : sync_Sync_persist.B1 s t v t33 w   R) :
    KW Tryz.prog 140 41 (sync_Sync_persist.RV R) ([(0, [1, 1, 1, 1, 1])].map (toItem (Tryz.f140.body.getD .skip))) [(0, .pointer s), (2, .int .i64 t), (3, .int .i64 v), (33, .bool t33)] w := by
  exact block_spec Tryz.func140 Tryz.mixed stops_nil (Eq.mp (sync_Sync_persist.B1_eq s t v t33 w   R ) h)
def sync_Sync_persist.B0 (s : Option Addr) (w : World)   (R : World → Prop) : Prop :=
  Pn s fun a =>
  LdP (a.add 1) w fun x9 =>
  elect_Elect_Term.Call x9 w fun r10 w1 =>
  Pn s fun a_1 =>
  LdP (a_1.add 1) w1 fun x14 =>
  elect_Elect_Vote.Call x14 w1 fun r15 w2 =>
  Pn s fun a_2 =>
  LdP a_2 w2 fun x19 =>
  rlog_Log_Term.Call x19 w2 fun r20 w3 =>
  Pn s fun a_3 =>
  LdP a_3 w3 fun x24 =>
  rlog_Log_Vote.Call x24 w3 fun r25 w4 =>
  Bm (r10 != r20) (
    sync_Sync_persist.B1 s r10 r15 true w4  R) (
    sync_Sync_persist.B1 s r10 r15 (r15 != r25) w4  R)
theorem sync_Sync_persist.B0_eq (s : Option Addr) (w : World)   (R : World → Prop) (sB1 : Option Addr → Int → Int → Bool → World → Prop) :
    (
  Pn s fun a =>
  LdP (a.add 1) w fun x9 =>
  elect_Elect_Term.Call x9 w fun r10 w1 =>
  Pn s fun a_1 =>
  LdP (a_1.add 1) w1 fun x14 =>
  elect_Elect_Vote.Call x14 w1 fun r15 w2 =>
  Pn s fun a_2 =>
  LdP a_2 w2 fun x19 =>
  rlog_Log_Term.Call x19 w2 fun r20 w3 =>
  Pn s fun a_3 =>
  LdP a_3 w3 fun x24 =>
  rlog_Log_Vote.Call x24 w3 fun r25 w4 =>
  Bm (r10 != r20) (
    sB1 s r10 r15 true w4) (
    sB1 s r10 r15 (r15 != r25) w4)) = kstep Tryz.prog 41 Tryz.f140.results.toList (Tryz.f140.body.getD .skip) (sync_Sync_persist.RV R) (kvc Tryz.prog 41 Tryz.f140.results.toList (Tryz.f140.body.getD .skip) (sync_Sync_persist.RV R) [([(0, [1, 1, 1, 1, 1])], fun σ w => dP (slotOf σ 0) fun s_ => dI .i64 (slotOf σ 2) fun t_ => dI .i64 (slotOf σ 3) fun v_ => dB (slotOf σ 33) fun t33_ => sB1 s_ t_ v_ t33_ w)] 2000) [(0, [])] [(0, .pointer s)] w := by kernel_rfl
theorem sync_Sync_persist.B0_sound {R : World → Prop}  (s : Option Addr) (w : World) (h : sync_Sync_persist.B0 s w   R) :
    KW Tryz.prog 140 41 (sync_Sync_persist.RV R) ([(0, [])].map (toItem (Tryz.f140.body.getD .skip))) [(0, .pointer s)] w := by
  exact block_spec Tryz.func140 Tryz.mixed (stops_cons (fun σ w h => by
      obtain ⟨s_, e0, h⟩ := dP_elim h
      obtain ⟨t_, e1, h⟩ := dI_elim h
      obtain ⟨v_, e2, h⟩ := dI_elim h
      obtain ⟨t33_, e3, h⟩ := dB_elim h
      exact (sync_Sync_persist.B1_sound  s_ t_ v_ t33_ w h).weaken (Sub.cons (Sub.cons (Sub.cons (Sub.cons (Sub.nil _) e3) e2) e1) e0)) stops_nil) (Eq.mp (sync_Sync_persist.B0_eq s w   R (fun s_ t_ v_ t33_ w => sync_Sync_persist.B1 s_ t_ v_ t33_ w  R)) h)
theorem sync_Sync_persist.sound (s : Option Addr) (w : World) (R : World → Prop) (h : sync_Sync_persist.B0 s w R) : sync_Sync_persist.Call s w R := by
  have hc := calls_of_block (args := #[.pointer s]) Tryz.func140 (body := (Tryz.f140.body.getD .skip)) (by kernel_rfl) (by kernel_rfl) (args_slot _) (sync_Sync_persist.B0_sound s w h)
  exact hc.mono fun e w' he => by
    obtain ⟨v, rfl, hv⟩ := he
    exact sync_Sync_persist.RV_elim hv
def sync_Sync_sendAll.B1 (s : Option Addr) (id0 p : Int) (w : World) (N1 : Option Addr → Int → Int → World → Prop)  (R : World → Prop) : Prop :=
  N1 s id0 (IntKind.i64.wrap (p + (1 : Int))) w
theorem sync_Sync_sendAll.B1_eq (s : Option Addr) (id0 p : Int) (w : World) (N1 : Option Addr → Int → Int → World → Prop)  (R : World → Prop)  :
    (
  N1 s id0 (IntKind.i64.wrap (p + (1 : Int))) w) = kstep Tryz.prog 19 Tryz.f141.results.toList (Tryz.f141.body.getD .skip) (sync_Sync_sendAll.RV R) (kvc Tryz.prog 19 Tryz.f141.results.toList (Tryz.f141.body.getD .skip) (sync_Sync_sendAll.RV R) [([(0, [1, 1, 0, 0]), (2, [1, 1, 0, 0]), (1, [0])], fun σ w => dP (slotOf σ 0) fun s_ => dI .i64 (slotOf σ 2) fun id0_ => dI .i64 (slotOf σ 3) fun p_ => N1 s_ id0_ p_ w)] 2000) [(0, [1, 1, 0, 0, 1, 1]), (2, [1, 1, 0, 0]), (1, [0])] [(0, .pointer s), (2, .int .i64 id0), (3, .int .i64 p)] w := by kernel_rfl
theorem sync_Sync_sendAll.B1_sound {R : World → Prop} {N1 : Option Addr → Int → Int → World → Prop} (hN1 : ∀ s id0 p w, N1 s id0 p w → KW Tryz.prog 141 19 (sync_Sync_sendAll.RV R) ([(0, [1, 1, 0, 0]), (2, [1, 1, 0, 0]), (1, [0])].map (toItem (Tryz.f141.body.getD .skip))) [(0, .pointer s), (2, .int .i64 id0), (3, .int .i64 p)] w) (s : Option Addr) (id0 p : Int) (w : World) (h : sync_Sync_sendAll.B1 s id0 p w N1  R) :
    KW Tryz.prog 141 19 (sync_Sync_sendAll.RV R) ([(0, [1, 1, 0, 0, 1, 1]), (2, [1, 1, 0, 0]), (1, [0])].map (toItem (Tryz.f141.body.getD .skip))) [(0, .pointer s), (2, .int .i64 id0), (3, .int .i64 p)] w := by
  exact block_spec Tryz.func141 Tryz.mixed (stops_cons (fun σ w h => by
      obtain ⟨s_, e0, h⟩ := dP_elim h
      obtain ⟨id0_, e1, h⟩ := dI_elim h
      obtain ⟨p_, e2, h⟩ := dI_elim h
      exact (hN1 s_ id0_ p_ w h).weaken (Sub.cons (Sub.cons (Sub.cons (Sub.nil _) e2) e1) e0)) stops_nil) (Eq.mp (sync_Sync_sendAll.B1_eq s id0 p w N1  R ) h)
def sync_Sync_sendAll.L1b (s : Option Addr) (id0 p : Int) (w : World)  (N1 : Option Addr → Int → Int → World → Prop) (R : World → Prop) : Prop :=
  Bm (decide (p < (3 : Int))) (
    Bm (p != id0) (
      sync_Sync_send.Call s p w fun w1 =>
      sync_Sync_sendAll.B1 s id0 p w1 N1 R) (
      sync_Sync_sendAll.B1 s id0 p w N1 R)) (
    R  w)
theorem sync_Sync_sendAll.L1b_eq (s : Option Addr) (id0 p : Int) (w : World)  (N1 : Option Addr → Int → Int → World → Prop) (R : World → Prop) (sB1 : Option Addr → Int → Int → World → Prop) :
    (
  Bm (decide (p < (3 : Int))) (
    Bm (p != id0) (
      sync_Sync_send.Call s p w fun w1 =>
      sB1 s id0 p w1) (
      sB1 s id0 p w)) (
    R  w)) = kstep Tryz.prog 19 Tryz.f141.results.toList (Tryz.f141.body.getD .skip) (sync_Sync_sendAll.RV R) (kvc Tryz.prog 19 Tryz.f141.results.toList (Tryz.f141.body.getD .skip) (sync_Sync_sendAll.RV R) [([(0, [1, 1, 0, 0, 1, 1]), (2, [1, 1, 0, 0]), (1, [0])], fun σ w => dP (slotOf σ 0) fun s_ => dI .i64 (slotOf σ 2) fun id0_ => dI .i64 (slotOf σ 3) fun p_ => sB1 s_ id0_ p_ w)] 2000) [(0, [1, 1, 0, 0]), (2, [1, 1, 0, 0]), (1, [0])] [(0, .pointer s), (2, .int .i64 id0), (3, .int .i64 p)] w := by kernel_rfl
theorem sync_Sync_sendAll.L1b_sound {R : World → Prop} {N1 : Option Addr → Int → Int → World → Prop} (hN1 : ∀ s id0 p w, N1 s id0 p w → KW Tryz.prog 141 19 (sync_Sync_sendAll.RV R) ([(0, [1, 1, 0, 0]), (2, [1, 1, 0, 0]), (1, [0])].map (toItem (Tryz.f141.body.getD .skip))) [(0, .pointer s), (2, .int .i64 id0), (3, .int .i64 p)] w) (s : Option Addr) (id0 p : Int) (w : World) (h : sync_Sync_sendAll.L1b s id0 p w  N1 R) :
    KW Tryz.prog 141 19 (sync_Sync_sendAll.RV R) ([(0, [1, 1, 0, 0]), (2, [1, 1, 0, 0]), (1, [0])].map (toItem (Tryz.f141.body.getD .skip))) [(0, .pointer s), (2, .int .i64 id0), (3, .int .i64 p)] w := by
  exact block_spec Tryz.func141 Tryz.mixed (stops_cons (fun σ w h => by
      obtain ⟨s_, e0, h⟩ := dP_elim h
      obtain ⟨id0_, e1, h⟩ := dI_elim h
      obtain ⟨p_, e2, h⟩ := dI_elim h
      exact (sync_Sync_sendAll.B1_sound hN1 s_ id0_ p_ w h).weaken (Sub.cons (Sub.cons (Sub.cons (Sub.nil _) e2) e1) e0)) stops_nil) (Eq.mp (sync_Sync_sendAll.L1b_eq s id0 p w  N1 R (fun s_ id0_ p_ w => sync_Sync_sendAll.B1 s_ id0_ p_ w N1 R)) h)
def sync_Sync_sendAll.L1 (s : Option Addr) (id0 p : Int) (w : World)  (R : World → Prop) : Prop :=
  ∃ (I : Nat → Option Addr → Int → Int → World → Prop) (m : Nat), I m s id0 p w ∧ ∀ m s id0 p w, I m s id0 p w → sync_Sync_sendAll.L1b s id0 p w  (fun s' id0' p' w' => ∃ m', m' < m ∧ I m' s' id0' p' w') R
theorem sync_Sync_sendAll.L1_sound {R : World → Prop}  (s : Option Addr) (id0 p : Int) (w : World) (h : sync_Sync_sendAll.L1 s id0 p w  R) :
    KW Tryz.prog 141 19 (sync_Sync_sendAll.RV R) ([(0, [1, 1, 0, 0]), (2, [1, 1, 0, 0]), (1, [0])].map (toItem (Tryz.f141.body.getD .skip))) [(0, .pointer s), (2, .int .i64 id0), (3, .int .i64 p)] w := by
  obtain ⟨I, m, hBase, hr⟩ := h
  refine KW.loop (fun m σ w => ∃ (s : Option Addr) (id0 p : Int), σ = [(0, .pointer s), (2, .int .i64 id0), (3, .int .i64 p)] ∧ I m s id0 p w) ?_ m _ w ⟨s, id0, p, rfl, hBase⟩
  rintro m ih σ w ⟨s, id0, p, rfl, hI⟩
  exact sync_Sync_sendAll.L1b_sound  (N1 := fun s' id0' p' w' => ∃ m', m' < m ∧ I m' s' id0' p' w') (fun s' id0' p' w' hx => by obtain ⟨m', hlt, hI'⟩ := hx; exact ih m' hlt _ w' ⟨s', id0', p', rfl, hI'⟩) s id0 p w (hr m s id0 p w hI)
def sync_Sync_sendAll.B0 (s : Option Addr) (w : World)   (R : World → Prop) : Prop :=
  Pn s fun a =>
  LdP (a.add 1) w fun x7 =>
  elect_Elect_Id.Call x7 w fun r8 w1 =>
  sync_Sync_sendAll.L1 s r8 (0 : Int) w1  R
theorem sync_Sync_sendAll.B0_eq (s : Option Addr) (w : World)   (R : World → Prop) (sL1 : Option Addr → Int → Int → World → Prop) :
    (
  Pn s fun a =>
  LdP (a.add 1) w fun x7 =>
  elect_Elect_Id.Call x7 w fun r8 w1 =>
  sL1 s r8 (0 : Int) w1) = kstep Tryz.prog 19 Tryz.f141.results.toList (Tryz.f141.body.getD .skip) (sync_Sync_sendAll.RV R) (kvc Tryz.prog 19 Tryz.f141.results.toList (Tryz.f141.body.getD .skip) (sync_Sync_sendAll.RV R) [([(0, [1, 1, 0, 0]), (2, [1, 1, 0, 0]), (1, [0])], fun σ w => dP (slotOf σ 0) fun s_ => dI .i64 (slotOf σ 2) fun id0_ => dI .i64 (slotOf σ 3) fun p_ => sL1 s_ id0_ p_ w)] 2000) [(0, [])] [(0, .pointer s)] w := by kernel_rfl
theorem sync_Sync_sendAll.B0_sound {R : World → Prop}  (s : Option Addr) (w : World) (h : sync_Sync_sendAll.B0 s w   R) :
    KW Tryz.prog 141 19 (sync_Sync_sendAll.RV R) ([(0, [])].map (toItem (Tryz.f141.body.getD .skip))) [(0, .pointer s)] w := by
  exact block_spec Tryz.func141 Tryz.mixed (stops_cons (fun σ w h => by
      obtain ⟨s_, e0, h⟩ := dP_elim h
      obtain ⟨id0_, e1, h⟩ := dI_elim h
      obtain ⟨p_, e2, h⟩ := dI_elim h
      exact (sync_Sync_sendAll.L1_sound  s_ id0_ p_ w h).weaken (Sub.cons (Sub.cons (Sub.cons (Sub.nil _) e2) e1) e0)) stops_nil) (Eq.mp (sync_Sync_sendAll.B0_eq s w   R (fun s_ id0_ p_ w => sync_Sync_sendAll.L1 s_ id0_ p_ w  R)) h)
theorem sync_Sync_sendAll.sound (s : Option Addr) (w : World) (R : World → Prop) (h : sync_Sync_sendAll.B0 s w R) : sync_Sync_sendAll.Call s w R := by
  have hc := calls_of_block (args := #[.pointer s]) Tryz.func141 (body := (Tryz.f141.body.getD .skip)) (by kernel_rfl) (by kernel_rfl) (args_slot _) (sync_Sync_sendAll.B0_sound s w h)
  exact hc.mono fun e w' he => by
    obtain ⟨v, rfl, hv⟩ := he
    exact sync_Sync_sendAll.RV_elim hv
def sync_Sync_post.B0 (s : Option Addr) (m0_0 m0_1 m0_2 m0_3 m0_4 m0_5 m0_6 : Int) (m0_7 : Bool) (m0_8_b : Option Addr) (m0_8_l m0_8_c : Nat) (m0_9 : ByteArray) (w : World)   (R : World → Prop) : Prop :=
  New (.cells #[.int .i64 m0_0, .int .i64 m0_1, .int .i64 m0_2, .int .i64 m0_3, .int .i64 m0_4, .int .i64 m0_5, .int .i64 m0_6, .bool m0_7, .slice m0_8_b m0_8_l m0_8_c, .string m0_9] 101) w fun m0_ w1 =>
  Pn s fun a =>
  LdI .i64 (a.add 41) w1 fun x7 =>
  Bm (decide (x7 < (3 : Int))) (
    Pn s fun a_1 =>
    LdI .i64 (a_1.add 41) w1.drew fun x13 =>
    LdI .i64 ⟨m0_, 0, none⟩ w1.drew fun x14_0 =>
    LdI .i64 ⟨m0_, 1, none⟩ w1.drew fun x14_1 =>
    LdI .i64 ⟨m0_, 2, none⟩ w1.drew fun x14_2 =>
    LdI .i64 ⟨m0_, 3, none⟩ w1.drew fun x14_3 =>
    LdI .i64 ⟨m0_, 4, none⟩ w1.drew fun x14_4 =>
    LdI .i64 ⟨m0_, 5, none⟩ w1.drew fun x14_5 =>
    LdI .i64 ⟨m0_, 6, none⟩ w1.drew fun x14_6 =>
    LdB ⟨m0_, 7, none⟩ w1.drew fun x14_7 =>
    LdL ⟨m0_, 8, none⟩ w1.drew fun x14_8_b x14_8_l x14_8_c =>
    LdS ⟨m0_, 9, none⟩ w1.drew fun x14_9 =>
    Pn s fun a_2 =>
    (0 ≤ x13 ∧ x13 < ((3 : Nat) : Int)) ∧
    Sts [.int .i64 x14_0, .int .i64 x14_1, .int .i64 x14_2, .int .i64 x14_3, .int .i64 x14_4, .int .i64 x14_5, .int .i64 x14_6, .bool x14_7, .slice x14_8_b x14_8_l x14_8_c, .string x14_9] (Addr.add (a_2.add 11) (x13.toNat * 10)) 0 w1.drew fun w2 =>
    Pn s fun a_3 =>
    LdI .i64 (a_3.add 41) w2 fun x21 =>
    Pn s fun a_4 =>
    Sts [.int .i64 (IntKind.i64.wrap (x21 + (1 : Int)))] (a_4.add 41) 0 w2 fun w3 =>
    R  w3) (
    R  w1)
theorem sync_Sync_post.B0_eq (s : Option Addr) (m0_0 m0_1 m0_2 m0_3 m0_4 m0_5 m0_6 : Int) (m0_7 : Bool) (m0_8_b : Option Addr) (m0_8_l m0_8_c : Nat) (m0_9 : ByteArray) (w : World)   (R : World → Prop)  :
    (
  New (.cells #[.int .i64 m0_0, .int .i64 m0_1, .int .i64 m0_2, .int .i64 m0_3, .int .i64 m0_4, .int .i64 m0_5, .int .i64 m0_6, .bool m0_7, .slice m0_8_b m0_8_l m0_8_c, .string m0_9] 101) w fun m0_ w1 =>
  Pn s fun a =>
  LdI .i64 (a.add 41) w1 fun x7 =>
  Bm (decide (x7 < (3 : Int))) (
    Pn s fun a_1 =>
    LdI .i64 (a_1.add 41) w1.drew fun x13 =>
    LdI .i64 ⟨m0_, 0, none⟩ w1.drew fun x14_0 =>
    LdI .i64 ⟨m0_, 1, none⟩ w1.drew fun x14_1 =>
    LdI .i64 ⟨m0_, 2, none⟩ w1.drew fun x14_2 =>
    LdI .i64 ⟨m0_, 3, none⟩ w1.drew fun x14_3 =>
    LdI .i64 ⟨m0_, 4, none⟩ w1.drew fun x14_4 =>
    LdI .i64 ⟨m0_, 5, none⟩ w1.drew fun x14_5 =>
    LdI .i64 ⟨m0_, 6, none⟩ w1.drew fun x14_6 =>
    LdB ⟨m0_, 7, none⟩ w1.drew fun x14_7 =>
    LdL ⟨m0_, 8, none⟩ w1.drew fun x14_8_b x14_8_l x14_8_c =>
    LdS ⟨m0_, 9, none⟩ w1.drew fun x14_9 =>
    Pn s fun a_2 =>
    (0 ≤ x13 ∧ x13 < ((3 : Nat) : Int)) ∧
    Sts [.int .i64 x14_0, .int .i64 x14_1, .int .i64 x14_2, .int .i64 x14_3, .int .i64 x14_4, .int .i64 x14_5, .int .i64 x14_6, .bool x14_7, .slice x14_8_b x14_8_l x14_8_c, .string x14_9] (Addr.add (a_2.add 11) (x13.toNat * 10)) 0 w1.drew fun w2 =>
    Pn s fun a_3 =>
    LdI .i64 (a_3.add 41) w2 fun x21 =>
    Pn s fun a_4 =>
    Sts [.int .i64 (IntKind.i64.wrap (x21 + (1 : Int)))] (a_4.add 41) 0 w2 fun w3 =>
    R  w3) (
    R  w1)) = kstep Tryz.prog 25 Tryz.f142.results.toList (Tryz.f142.body.getD .skip) (sync_Sync_post.RV R) (kvc Tryz.prog 25 Tryz.f142.results.toList (Tryz.f142.body.getD .skip) (sync_Sync_post.RV R) [] 2000) [(0, [])] [(0, .pointer s), (1, .agg #[.int .i64 m0_0, .int .i64 m0_1, .int .i64 m0_2, .int .i64 m0_3, .int .i64 m0_4, .int .i64 m0_5, .int .i64 m0_6, .bool m0_7, .slice m0_8_b m0_8_l m0_8_c, .string m0_9])] w := by kernel_rfl
theorem sync_Sync_post.B0_sound {R : World → Prop}  (s : Option Addr) (m0_0 m0_1 m0_2 m0_3 m0_4 m0_5 m0_6 : Int) (m0_7 : Bool) (m0_8_b : Option Addr) (m0_8_l m0_8_c : Nat) (m0_9 : ByteArray) (w : World) (h : sync_Sync_post.B0 s m0_0 m0_1 m0_2 m0_3 m0_4 m0_5 m0_6 m0_7 m0_8_b m0_8_l m0_8_c m0_9 w   R) :
    KW Tryz.prog 142 25 (sync_Sync_post.RV R) ([(0, [])].map (toItem (Tryz.f142.body.getD .skip))) [(0, .pointer s), (1, .agg #[.int .i64 m0_0, .int .i64 m0_1, .int .i64 m0_2, .int .i64 m0_3, .int .i64 m0_4, .int .i64 m0_5, .int .i64 m0_6, .bool m0_7, .slice m0_8_b m0_8_l m0_8_c, .string m0_9])] w := by
  exact block_spec Tryz.func142 Tryz.mixed stops_nil (Eq.mp (sync_Sync_post.B0_eq s m0_0 m0_1 m0_2 m0_3 m0_4 m0_5 m0_6 m0_7 m0_8_b m0_8_l m0_8_c m0_9 w   R ) h)
theorem sync_Sync_post.sound (s : Option Addr) (m0_0 m0_1 m0_2 m0_3 m0_4 m0_5 m0_6 : Int) (m0_7 : Bool) (m0_8_b : Option Addr) (m0_8_l m0_8_c : Nat) (m0_9 : ByteArray) (w : World) (R : World → Prop) (h : sync_Sync_post.B0 s m0_0 m0_1 m0_2 m0_3 m0_4 m0_5 m0_6 m0_7 m0_8_b m0_8_l m0_8_c m0_9 w R) : sync_Sync_post.Call s m0_0 m0_1 m0_2 m0_3 m0_4 m0_5 m0_6 m0_7 m0_8_b m0_8_l m0_8_c m0_9 w R := by
  have hc := calls_of_block (args := #[.pointer s, .agg #[.int .i64 m0_0, .int .i64 m0_1, .int .i64 m0_2, .int .i64 m0_3, .int .i64 m0_4, .int .i64 m0_5, .int .i64 m0_6, .bool m0_7, .slice m0_8_b m0_8_l m0_8_c, .string m0_9]]) Tryz.func142 (body := (Tryz.f142.body.getD .skip)) (by kernel_rfl) (by kernel_rfl) (args_slot _) (sync_Sync_post.B0_sound s m0_0 m0_1 m0_2 m0_3 m0_4 m0_5 m0_6 m0_7 m0_8_b m0_8_l m0_8_c m0_9 w h)
  exact hc.mono fun e w' he => by
    obtain ⟨v, rfl, hv⟩ := he
    exact sync_Sync_post.RV_elim hv
def sync_Sync_flush.L1b (s out_b : Option Addr) (out_l out_c : Nat) (i : Int) (w : World)  (N1 : Option Addr → Option Addr → Nat → Nat → Int → World → Prop) (R : Option Addr → Nat → Nat → World → Prop) : Prop :=
  Pn s fun a =>
  LdI .i64 (a.add 41) w fun x19 =>
  Bm (decide (i < x19)) (
    Pn s fun a_1 =>
    (0 ≤ i ∧ i < ((3 : Nat) : Int)) ∧
    LdI .i64 (Addr.add (a_1.add 11) (i.toNat * 10)) w fun x30_0 =>
    LdI .i64 ((Addr.add (a_1.add 11) (i.toNat * 10)).add 1) w fun x30_1 =>
    LdI .i64 ((Addr.add (a_1.add 11) (i.toNat * 10)).add 2) w fun x30_2 =>
    LdI .i64 ((Addr.add (a_1.add 11) (i.toNat * 10)).add 3) w fun x30_3 =>
    LdI .i64 ((Addr.add (a_1.add 11) (i.toNat * 10)).add 4) w fun x30_4 =>
    LdI .i64 ((Addr.add (a_1.add 11) (i.toNat * 10)).add 5) w fun x30_5 =>
    LdI .i64 ((Addr.add (a_1.add 11) (i.toNat * 10)).add 6) w fun x30_6 =>
    LdB ((Addr.add (a_1.add 11) (i.toNat * 10)).add 7) w fun x30_7 =>
    LdL ((Addr.add (a_1.add 11) (i.toNat * 10)).add 8) w fun x30_8_b x30_8_l x30_8_c =>
    LdS ((Addr.add (a_1.add 11) (i.toNat * 10)).add 9) w fun x30_9 =>
    Pn out_b fun a_2 =>
    (0 ≤ i ∧ i < ((out_l : Nat) : Int)) ∧
    Sts [.int .i64 x30_0, .int .i64 x30_1, .int .i64 x30_2, .int .i64 x30_3, .int .i64 x30_4, .int .i64 x30_5, .int .i64 x30_6, .bool x30_7, .slice x30_8_b x30_8_l x30_8_c, .string x30_9] (Addr.add a_2 (i.toNat * 10)) 0 w fun w1 =>
    Pn s fun a_3 =>
    (0 ≤ i ∧ i < ((3 : Nat) : Int)) ∧
    Sts [.int .i64 (0 : Int), .int .i64 (0 : Int), .int .i64 (0 : Int), .int .i64 (0 : Int), .int .i64 (0 : Int), .int .i64 (0 : Int), .int .i64 (0 : Int), .bool false, .slice none 0 0, .string (ByteArray.mk #[])] (Addr.add (a_3.add 11) (i.toNat * 10)) 0 w1 fun w2 =>
    N1 s out_b out_l out_c (IntKind.i64.wrap (i + (1 : Int))) w2) (
    Pn s fun a_4 =>
    Sts [.int .i64 (0 : Int)] (a_4.add 41) 0 w fun w3 =>
    R out_b out_l out_c w3)
theorem sync_Sync_flush.L1b_eq (s out_b : Option Addr) (out_l out_c : Nat) (i : Int) (w : World)  (N1 : Option Addr → Option Addr → Nat → Nat → Int → World → Prop) (R : Option Addr → Nat → Nat → World → Prop)  :
    (
  Pn s fun a =>
  LdI .i64 (a.add 41) w fun x19 =>
  Bm (decide (i < x19)) (
    Pn s fun a_1 =>
    (0 ≤ i ∧ i < ((3 : Nat) : Int)) ∧
    LdI .i64 (Addr.add (a_1.add 11) (i.toNat * 10)) w fun x30_0 =>
    LdI .i64 ((Addr.add (a_1.add 11) (i.toNat * 10)).add 1) w fun x30_1 =>
    LdI .i64 ((Addr.add (a_1.add 11) (i.toNat * 10)).add 2) w fun x30_2 =>
    LdI .i64 ((Addr.add (a_1.add 11) (i.toNat * 10)).add 3) w fun x30_3 =>
    LdI .i64 ((Addr.add (a_1.add 11) (i.toNat * 10)).add 4) w fun x30_4 =>
    LdI .i64 ((Addr.add (a_1.add 11) (i.toNat * 10)).add 5) w fun x30_5 =>
    LdI .i64 ((Addr.add (a_1.add 11) (i.toNat * 10)).add 6) w fun x30_6 =>
    LdB ((Addr.add (a_1.add 11) (i.toNat * 10)).add 7) w fun x30_7 =>
    LdL ((Addr.add (a_1.add 11) (i.toNat * 10)).add 8) w fun x30_8_b x30_8_l x30_8_c =>
    LdS ((Addr.add (a_1.add 11) (i.toNat * 10)).add 9) w fun x30_9 =>
    Pn out_b fun a_2 =>
    (0 ≤ i ∧ i < ((out_l : Nat) : Int)) ∧
    Sts [.int .i64 x30_0, .int .i64 x30_1, .int .i64 x30_2, .int .i64 x30_3, .int .i64 x30_4, .int .i64 x30_5, .int .i64 x30_6, .bool x30_7, .slice x30_8_b x30_8_l x30_8_c, .string x30_9] (Addr.add a_2 (i.toNat * 10)) 0 w fun w1 =>
    Pn s fun a_3 =>
    (0 ≤ i ∧ i < ((3 : Nat) : Int)) ∧
    Sts [.int .i64 (0 : Int), .int .i64 (0 : Int), .int .i64 (0 : Int), .int .i64 (0 : Int), .int .i64 (0 : Int), .int .i64 (0 : Int), .int .i64 (0 : Int), .bool false, .slice none 0 0, .string (ByteArray.mk #[])] (Addr.add (a_3.add 11) (i.toNat * 10)) 0 w1 fun w2 =>
    N1 s out_b out_l out_c (IntKind.i64.wrap (i + (1 : Int))) w2) (
    Pn s fun a_4 =>
    Sts [.int .i64 (0 : Int)] (a_4.add 41) 0 w fun w3 =>
    R out_b out_l out_c w3)) = kstep Tryz.prog 42 Tryz.f143.results.toList (Tryz.f143.body.getD .skip) (sync_Sync_flush.RV R) (kvc Tryz.prog 42 Tryz.f143.results.toList (Tryz.f143.body.getD .skip) (sync_Sync_flush.RV R) [([(0, [1, 1, 1, 0, 1, 0, 0]), (2, [1, 1, 1, 0, 1, 0, 0]), (1, [0]), (0, [1, 1, 1, 1])], fun σ w => dP (slotOf σ 0) fun s_ => dL (slotOf σ 3) fun out_b_ out_l_ out_c_ => dI .i64 (slotOf σ 4) fun i_ => N1 s_ out_b_ out_l_ out_c_ i_ w)] 2000) [(0, [1, 1, 1, 0, 1, 0, 0]), (2, [1, 1, 1, 0, 1, 0, 0]), (1, [0]), (0, [1, 1, 1, 1])] [(0, .pointer s), (3, .slice out_b out_l out_c), (4, .int .i64 i)] w := by kernel_rfl
theorem sync_Sync_flush.L1b_sound {R : Option Addr → Nat → Nat → World → Prop} {N1 : Option Addr → Option Addr → Nat → Nat → Int → World → Prop} (hN1 : ∀ s out_b out_l out_c i w, N1 s out_b out_l out_c i w → KW Tryz.prog 143 42 (sync_Sync_flush.RV R) ([(0, [1, 1, 1, 0, 1, 0, 0]), (2, [1, 1, 1, 0, 1, 0, 0]), (1, [0]), (0, [1, 1, 1, 1])].map (toItem (Tryz.f143.body.getD .skip))) [(0, .pointer s), (3, .slice out_b out_l out_c), (4, .int .i64 i)] w) (s out_b : Option Addr) (out_l out_c : Nat) (i : Int) (w : World) (h : sync_Sync_flush.L1b s out_b out_l out_c i w  N1 R) :
    KW Tryz.prog 143 42 (sync_Sync_flush.RV R) ([(0, [1, 1, 1, 0, 1, 0, 0]), (2, [1, 1, 1, 0, 1, 0, 0]), (1, [0]), (0, [1, 1, 1, 1])].map (toItem (Tryz.f143.body.getD .skip))) [(0, .pointer s), (3, .slice out_b out_l out_c), (4, .int .i64 i)] w := by
  exact block_spec Tryz.func143 Tryz.mixed (stops_cons (fun σ w h => by
      obtain ⟨s_, e0, h⟩ := dP_elim h
      obtain ⟨out_b_, out_l_, out_c_, e1, h⟩ := dL_elim h
      obtain ⟨i_, e2, h⟩ := dI_elim h
      exact (hN1 s_ out_b_ out_l_ out_c_ i_ w h).weaken (Sub.cons (Sub.cons (Sub.cons (Sub.nil _) e2) e1) e0)) stops_nil) (Eq.mp (sync_Sync_flush.L1b_eq s out_b out_l out_c i w  N1 R ) h)
def sync_Sync_flush.L1 (s out_b : Option Addr) (out_l out_c : Nat) (i : Int) (w : World)  (R : Option Addr → Nat → Nat → World → Prop) : Prop :=
  ∃ (I : Nat → Option Addr → Option Addr → Nat → Nat → Int → World → Prop) (m : Nat), I m s out_b out_l out_c i w ∧ ∀ m s out_b out_l out_c i w, I m s out_b out_l out_c i w → sync_Sync_flush.L1b s out_b out_l out_c i w  (fun s' out_b' out_l' out_c' i' w' => ∃ m', m' < m ∧ I m' s' out_b' out_l' out_c' i' w') R
theorem sync_Sync_flush.L1_sound {R : Option Addr → Nat → Nat → World → Prop}  (s out_b : Option Addr) (out_l out_c : Nat) (i : Int) (w : World) (h : sync_Sync_flush.L1 s out_b out_l out_c i w  R) :
    KW Tryz.prog 143 42 (sync_Sync_flush.RV R) ([(0, [1, 1, 1, 0, 1, 0, 0]), (2, [1, 1, 1, 0, 1, 0, 0]), (1, [0]), (0, [1, 1, 1, 1])].map (toItem (Tryz.f143.body.getD .skip))) [(0, .pointer s), (3, .slice out_b out_l out_c), (4, .int .i64 i)] w := by
  obtain ⟨I, m, hBase, hr⟩ := h
  refine KW.loop (fun m σ w => ∃ (s out_b : Option Addr) (out_l out_c : Nat) (i : Int), σ = [(0, .pointer s), (3, .slice out_b out_l out_c), (4, .int .i64 i)] ∧ I m s out_b out_l out_c i w) ?_ m _ w ⟨s, out_b, out_l, out_c, i, rfl, hBase⟩
  rintro m ih σ w ⟨s, out_b, out_l, out_c, i, rfl, hI⟩
  exact sync_Sync_flush.L1b_sound  (N1 := fun s' out_b' out_l' out_c' i' w' => ∃ m', m' < m ∧ I m' s' out_b' out_l' out_c' i' w') (fun s' out_b' out_l' out_c' i' w' hx => by obtain ⟨m', hlt, hI'⟩ := hx; exact ih m' hlt _ w' ⟨s', out_b', out_l', out_c', i', rfl, hI'⟩) s out_b out_l out_c i w (hr m s out_b out_l out_c i w hI)
def sync_Sync_flush.B0 (s : Option Addr) (w : World)   (R : Option Addr → Nat → Nat → World → Prop) : Prop :=
  Pn s fun a =>
  LdI .i64 (a.add 41) w fun x8 =>
  Bm (x8 == (0 : Int)) (
    R none 0 0 w) (
    Pn s fun a_1 =>
    LdI .i64 (a_1.add 41) w fun x13 =>
    Make 101 (.agg #[.int .i64 (0 : Int), .int .i64 (0 : Int), .int .i64 (0 : Int), .int .i64 (0 : Int), .int .i64 (0 : Int), .int .i64 (0 : Int), .int .i64 (0 : Int), .bool false, .slice none 0 0, .string (ByteArray.mk #[])]) 10 104 x13 x13 w fun b14 w1 =>
    sync_Sync_flush.L1 s (some ⟨b14, 0, none⟩) x13.toNat x13.toNat (0 : Int) w1  R)
theorem sync_Sync_flush.B0_eq (s : Option Addr) (w : World)   (R : Option Addr → Nat → Nat → World → Prop) (sL1 : Option Addr → Option Addr → Nat → Nat → Int → World → Prop) :
    (
  Pn s fun a =>
  LdI .i64 (a.add 41) w fun x8 =>
  Bm (x8 == (0 : Int)) (
    R none 0 0 w) (
    Pn s fun a_1 =>
    LdI .i64 (a_1.add 41) w fun x13 =>
    Make 101 (.agg #[.int .i64 (0 : Int), .int .i64 (0 : Int), .int .i64 (0 : Int), .int .i64 (0 : Int), .int .i64 (0 : Int), .int .i64 (0 : Int), .int .i64 (0 : Int), .bool false, .slice none 0 0, .string (ByteArray.mk #[])]) 10 104 x13 x13 w fun b14 w1 =>
    sL1 s (some ⟨b14, 0, none⟩) x13.toNat x13.toNat (0 : Int) w1)) = kstep Tryz.prog 42 Tryz.f143.results.toList (Tryz.f143.body.getD .skip) (sync_Sync_flush.RV R) (kvc Tryz.prog 42 Tryz.f143.results.toList (Tryz.f143.body.getD .skip) (sync_Sync_flush.RV R) [([(0, [1, 1, 1, 0, 1, 0, 0]), (2, [1, 1, 1, 0, 1, 0, 0]), (1, [0]), (0, [1, 1, 1, 1])], fun σ w => dP (slotOf σ 0) fun s_ => dL (slotOf σ 3) fun out_b_ out_l_ out_c_ => dI .i64 (slotOf σ 4) fun i_ => sL1 s_ out_b_ out_l_ out_c_ i_ w)] 2000) [(0, [])] [(0, .pointer s)] w := by kernel_rfl
theorem sync_Sync_flush.B0_sound {R : Option Addr → Nat → Nat → World → Prop}  (s : Option Addr) (w : World) (h : sync_Sync_flush.B0 s w   R) :
    KW Tryz.prog 143 42 (sync_Sync_flush.RV R) ([(0, [])].map (toItem (Tryz.f143.body.getD .skip))) [(0, .pointer s)] w := by
  exact block_spec Tryz.func143 Tryz.mixed (stops_cons (fun σ w h => by
      obtain ⟨s_, e0, h⟩ := dP_elim h
      obtain ⟨out_b_, out_l_, out_c_, e1, h⟩ := dL_elim h
      obtain ⟨i_, e2, h⟩ := dI_elim h
      exact (sync_Sync_flush.L1_sound  s_ out_b_ out_l_ out_c_ i_ w h).weaken (Sub.cons (Sub.cons (Sub.cons (Sub.nil _) e2) e1) e0)) stops_nil) (Eq.mp (sync_Sync_flush.B0_eq s w   R (fun s_ out_b_ out_l_ out_c_ i_ w => sync_Sync_flush.L1 s_ out_b_ out_l_ out_c_ i_ w  R)) h)
theorem sync_Sync_flush.sound (s : Option Addr) (w : World) (R : Option Addr → Nat → Nat → World → Prop) (h : sync_Sync_flush.B0 s w R) : sync_Sync_flush.Call s w R := by
  have hc := calls_of_block (args := #[.pointer s]) Tryz.func143 (body := (Tryz.f143.body.getD .skip)) (by kernel_rfl) (by kernel_rfl) (args_slot _) (sync_Sync_flush.B0_sound s w h)
  exact hc.mono fun e w' he => by
    obtain ⟨v, rfl, hv⟩ := he
    exact sync_Sync_flush.RV_elim hv
def node_Node_compact.B1 (n : Option Addr) (t25 : Bool) (w : World)   (R : World → Prop) : Prop :=
  Bm t25 (
    R  w) (
    Pn n fun a =>
    LdP (a.add 1) w fun x29 =>
    kv_KV_Snapshot.Call x29 w fun r30 w1 =>
    Pn n fun a_1 =>
    LdP a_1 w1.drew fun x34 =>
    Pn n fun a_2 =>
    LdI .i64 (a_2.add 3) w1.drew fun x38 =>
    sync_Sync_Compact.Call x34 x38 r30 w1.drew fun r40 w2 =>
    R  w2)
theorem node_Node_compact.B1_eq (n : Option Addr) (t25 : Bool) (w : World)   (R : World → Prop)  :
    (
  Bm t25 (
    R  w) (
    Pn n fun a =>
    LdP (a.add 1) w fun x29 =>
    kv_KV_Snapshot.Call x29 w fun r30 w1 =>
    Pn n fun a_1 =>
    LdP a_1 w1.drew fun x34 =>
    Pn n fun a_2 =>
    LdI .i64 (a_2.add 3) w1.drew fun x38 =>
    sync_Sync_Compact.Call x34 x38 r30 w1.drew fun r40 w2 =>
    R  w2)) = kstep Tryz.prog 41 Tryz.f144.results.toList (Tryz.f144.body.getD .skip) (node_Node_compact.RV R) (kvc Tryz.prog 41 Tryz.f144.results.toList (Tryz.f144.body.getD .skip) (node_Node_compact.RV R) [] 2000) [(0, [1, 0, 1]), (0, [1, 1])] [(0, .pointer n), (25, .bool t25)] w := by kernel_rfl
theorem node_Node_compact.B1_sound {R : World → Prop}  (n : Option Addr) (t25 : Bool) (w : World) (h : node_Node_compact.B1 n t25 w   R) :
    KW Tryz.prog 144 41 (node_Node_compact.RV R) ([(0, [1, 0, 1]), (0, [1, 1])].map (toItem (Tryz.f144.body.getD .skip))) [(0, .pointer n), (25, .bool t25)] w := by
  exact block_spec Tryz.func144 Tryz.mixed stops_nil (Eq.mp (node_Node_compact.B1_eq n t25 w   R ) h)
def node_Node_compact.B0 (n : Option Addr) (base last : Int) (w : World)   (R : World → Prop) : Prop :=
  Pn n fun a =>
  LdI .i64 (a.add 3) w fun x10 =>
  Bm (decide (x10 ≤ base)) (
    R  w) (
    Pn n fun a_1 =>
    LdI .i64 (a_1.add 3) w fun x16 =>
    Bm (decide ((IntKind.i64.wrap (x16 - base)) < (4 : Int))) (
      node_Node_compact.B1 n (decide ((IntKind.i64.wrap (last - base)) < (6 : Int))) w  R) (
      node_Node_compact.B1 n false w  R))
theorem node_Node_compact.B0_eq (n : Option Addr) (base last : Int) (w : World)   (R : World → Prop) (sB1 : Option Addr → Bool → World → Prop) :
    (
  Pn n fun a =>
  LdI .i64 (a.add 3) w fun x10 =>
  Bm (decide (x10 ≤ base)) (
    R  w) (
    Pn n fun a_1 =>
    LdI .i64 (a_1.add 3) w fun x16 =>
    Bm (decide ((IntKind.i64.wrap (x16 - base)) < (4 : Int))) (
      sB1 n (decide ((IntKind.i64.wrap (last - base)) < (6 : Int))) w) (
      sB1 n false w))) = kstep Tryz.prog 41 Tryz.f144.results.toList (Tryz.f144.body.getD .skip) (node_Node_compact.RV R) (kvc Tryz.prog 41 Tryz.f144.results.toList (Tryz.f144.body.getD .skip) (node_Node_compact.RV R) [([(0, [1, 0, 1]), (0, [1, 1])], fun σ w => dP (slotOf σ 0) fun n_ => dB (slotOf σ 25) fun t25_ => sB1 n_ t25_ w)] 2000) [(0, [])] [(0, .pointer n), (1, .int .i64 base), (2, .int .i64 last)] w := by kernel_rfl
theorem node_Node_compact.B0_sound {R : World → Prop}  (n : Option Addr) (base last : Int) (w : World) (h : node_Node_compact.B0 n base last w   R) :
    KW Tryz.prog 144 41 (node_Node_compact.RV R) ([(0, [])].map (toItem (Tryz.f144.body.getD .skip))) [(0, .pointer n), (1, .int .i64 base), (2, .int .i64 last)] w := by
  exact block_spec Tryz.func144 Tryz.mixed (stops_cons (fun σ w h => by
      obtain ⟨n_, e0, h⟩ := dP_elim h
      obtain ⟨t25_, e1, h⟩ := dB_elim h
      exact (node_Node_compact.B1_sound  n_ t25_ w h).weaken (Sub.cons (Sub.cons (Sub.nil _) e1) e0)) stops_nil) (Eq.mp (node_Node_compact.B0_eq n base last w   R (fun n_ t25_ w => node_Node_compact.B1 n_ t25_ w  R)) h)
theorem node_Node_compact.sound (n : Option Addr) (base last : Int) (w : World) (R : World → Prop) (h : node_Node_compact.B0 n base last w R) : node_Node_compact.Call n base last w R := by
  have hc := calls_of_block (args := #[.pointer n, .int .i64 base, .int .i64 last]) Tryz.func144 (body := (Tryz.f144.body.getD .skip)) (by kernel_rfl) (by kernel_rfl) (args_slot _) (node_Node_compact.B0_sound n base last w h)
  exact hc.mono fun e w' he => by
    obtain ⟨v, rfl, hv⟩ := he
    exact node_Node_compact.RV_elim hv
def node_Node_apply.B2 (n : Option Addr) (commit : Int) (e a : Nat) (w : World) (N1 : Option Addr → Int → World → Prop)  (R : World → Prop) : Prop :=
  LdS ⟨e, 1, none⟩ w fun x44 =>
  LdI .i64 ⟨a, 0, none⟩ w fun x45_0 =>
  LdS ⟨a, 1, none⟩ w fun x45_1 =>
  node_Node_answer.Call n x44 x45_0 x45_1 w fun w1 =>
  N1 n commit w1
theorem node_Node_apply.B2_eq (n : Option Addr) (commit : Int) (e a : Nat) (w : World) (N1 : Option Addr → Int → World → Prop)  (R : World → Prop)  :
    (
  LdS ⟨e, 1, none⟩ w fun x44 =>
  LdI .i64 ⟨a, 0, none⟩ w fun x45_0 =>
  LdS ⟨a, 1, none⟩ w fun x45_1 =>
  node_Node_answer.Call n x44 x45_0 x45_1 w fun w1 =>
  N1 n commit w1) = kstep Tryz.prog 47 Tryz.f145.results.toList (Tryz.f145.body.getD .skip) (node_Node_apply.RV R) (kvc Tryz.prog 47 Tryz.f145.results.toList (Tryz.f145.body.getD .skip) (node_Node_apply.RV R) [([(0, [0, 0]), (2, [0, 0]), (1, [0])], fun σ w => dP (slotOf σ 0) fun n_ => dI .i64 (slotOf σ 1) fun commit_ => N1 n_ commit_ w)] 2000) [(0, [0, 0, 1, 0, 1, 1, 1, 0, 1]), (1, [1]), (2, [0, 0]), (1, [0])] [(0, .pointer n), (1, .int .i64 commit), (4, .pointer (some ⟨e, 0, none⟩)), (6, .pointer (some ⟨a, 0, none⟩))] w := by kernel_rfl
theorem node_Node_apply.B2_sound {R : World → Prop} {N1 : Option Addr → Int → World → Prop} (hN1 : ∀ n commit w, N1 n commit w → KW Tryz.prog 145 47 (node_Node_apply.RV R) ([(0, [0, 0]), (2, [0, 0]), (1, [0])].map (toItem (Tryz.f145.body.getD .skip))) [(0, .pointer n), (1, .int .i64 commit)] w) (n : Option Addr) (commit : Int) (e a : Nat) (w : World) (h : node_Node_apply.B2 n commit e a w N1  R) :
    KW Tryz.prog 145 47 (node_Node_apply.RV R) ([(0, [0, 0, 1, 0, 1, 1, 1, 0, 1]), (1, [1]), (2, [0, 0]), (1, [0])].map (toItem (Tryz.f145.body.getD .skip))) [(0, .pointer n), (1, .int .i64 commit), (4, .pointer (some ⟨e, 0, none⟩)), (6, .pointer (some ⟨a, 0, none⟩))] w := by
  exact block_spec Tryz.func145 Tryz.mixed (stops_cons (fun σ w h => by
      obtain ⟨n_, e0, h⟩ := dP_elim h
      obtain ⟨commit_, e1, h⟩ := dI_elim h
      exact (hN1 n_ commit_ w h).weaken (Sub.cons (Sub.cons (Sub.nil _) e1) e0)) stops_nil) (Eq.mp (node_Node_apply.B2_eq n commit e a w N1  R ) h)
def node_Node_apply.B1 (n : Option Addr) (commit : Int) (e : Nat) (w : World) (N1 : Option Addr → Int → World → Prop)  (R : World → Prop) : Prop :=
  LdS ⟨e, 1, none⟩ w fun x33 =>
  Bm (!(x33.toList == (ByteArray.mk #[]).toList)) (
    Pn n fun a =>
    LdP (a.add 1) w.drew fun x38 =>
    LdS ⟨e, 1, none⟩ w.drew fun x40 =>
    ((
      kv_KV_Apply.Call x38 x40 w.drew fun r41_0 r41_1 w1 =>
      New (.cells #[.int .i64 (0 : Int), .string (ByteArray.mk #[])] 93) w1 fun a_ w2 =>
      Sts [.int .i64 r41_0, .string r41_1] ⟨a_, 0, none⟩ 0 w2 fun w3 =>
      node_Node_apply.B2 n commit e a_ w3 N1 R) ∧ (
      New (.cells #[.int .i64 (0 : Int), .string (ByteArray.mk #[])] 93) w.drew fun a__1 w4 =>
      w4.cell? ⟨e, 1, none⟩ = some (.string x40) ∧
      w4.cell? (a.add 1) = some (.pointer x38) ∧
      kv_KV_Apply.Call x38 x40 w4 fun r41_0_1 r41_1_1 w5 =>
      Sts [.int .i64 r41_0_1, .string r41_1_1] ⟨a__1, 0, none⟩ 0 w5 fun w6 =>
      node_Node_apply.B2 n commit e a__1 w6 N1 R))) (
    N1 n commit w)
theorem node_Node_apply.B1_eq (n : Option Addr) (commit : Int) (e : Nat) (w : World) (N1 : Option Addr → Int → World → Prop)  (R : World → Prop) (sB2 : Option Addr → Int → Nat → Nat → World → Prop) :
    (
  LdS ⟨e, 1, none⟩ w fun x33 =>
  Bm (!(x33.toList == (ByteArray.mk #[]).toList)) (
    Pn n fun a =>
    LdP (a.add 1) w.drew fun x38 =>
    LdS ⟨e, 1, none⟩ w.drew fun x40 =>
    ((
      kv_KV_Apply.Call x38 x40 w.drew fun r41_0 r41_1 w1 =>
      New (.cells #[.int .i64 (0 : Int), .string (ByteArray.mk #[])] 93) w1 fun a_ w2 =>
      Sts [.int .i64 r41_0, .string r41_1] ⟨a_, 0, none⟩ 0 w2 fun w3 =>
      sB2 n commit e a_ w3) ∧ (
      New (.cells #[.int .i64 (0 : Int), .string (ByteArray.mk #[])] 93) w.drew fun a__1 w4 =>
      w4.cell? ⟨e, 1, none⟩ = some (.string x40) ∧
      w4.cell? (a.add 1) = some (.pointer x38) ∧
      kv_KV_Apply.Call x38 x40 w4 fun r41_0_1 r41_1_1 w5 =>
      Sts [.int .i64 r41_0_1, .string r41_1_1] ⟨a__1, 0, none⟩ 0 w5 fun w6 =>
      sB2 n commit e a__1 w6))) (
    N1 n commit w)) = kstep Tryz.prog 47 Tryz.f145.results.toList (Tryz.f145.body.getD .skip) (node_Node_apply.RV R) (kvc Tryz.prog 47 Tryz.f145.results.toList (Tryz.f145.body.getD .skip) (node_Node_apply.RV R) [([(0, [0, 0, 1, 0, 1, 1, 1, 0, 1]), (1, [1]), (2, [0, 0]), (1, [0])], fun σ w => dP (slotOf σ 0) fun n_ => dI .i64 (slotOf σ 1) fun commit_ => dK (slotOf σ 4) fun e_ => dK (slotOf σ 6) fun a_ => sB2 n_ commit_ e_ a_ w),
    ([(0, [0, 0]), (2, [0, 0]), (1, [0])], fun σ w => dP (slotOf σ 0) fun n_ => dI .i64 (slotOf σ 1) fun commit_ => N1 n_ commit_ w)] 2000) [(0, [0, 0, 1, 0, 1, 1]), (1, [1]), (2, [0, 0]), (1, [0])] [(0, .pointer n), (1, .int .i64 commit), (4, .pointer (some ⟨e, 0, none⟩))] w := by kernel_rfl
theorem node_Node_apply.B1_sound {R : World → Prop} {N1 : Option Addr → Int → World → Prop} (hN1 : ∀ n commit w, N1 n commit w → KW Tryz.prog 145 47 (node_Node_apply.RV R) ([(0, [0, 0]), (2, [0, 0]), (1, [0])].map (toItem (Tryz.f145.body.getD .skip))) [(0, .pointer n), (1, .int .i64 commit)] w) (n : Option Addr) (commit : Int) (e : Nat) (w : World) (h : node_Node_apply.B1 n commit e w N1  R) :
    KW Tryz.prog 145 47 (node_Node_apply.RV R) ([(0, [0, 0, 1, 0, 1, 1]), (1, [1]), (2, [0, 0]), (1, [0])].map (toItem (Tryz.f145.body.getD .skip))) [(0, .pointer n), (1, .int .i64 commit), (4, .pointer (some ⟨e, 0, none⟩))] w := by
  exact block_spec Tryz.func145 Tryz.mixed (stops_cons (fun σ w h => by
      obtain ⟨n_, e0, h⟩ := dP_elim h
      obtain ⟨commit_, e1, h⟩ := dI_elim h
      obtain ⟨e_, e2, h⟩ := dK_elim h
      obtain ⟨a_, e3, h⟩ := dK_elim h
      exact (node_Node_apply.B2_sound hN1 n_ commit_ e_ a_ w h).weaken (Sub.cons (Sub.cons (Sub.cons (Sub.cons (Sub.nil _) e3) e2) e1) e0)) (stops_cons (fun σ w h => by
      obtain ⟨n_, e0, h⟩ := dP_elim h
      obtain ⟨commit_, e1, h⟩ := dI_elim h
      exact (hN1 n_ commit_ w h).weaken (Sub.cons (Sub.cons (Sub.nil _) e1) e0)) stops_nil)) (Eq.mp (node_Node_apply.B1_eq n commit e w N1  R (fun n_ commit_ e_ a_ w => node_Node_apply.B2 n_ commit_ e_ a_ w N1 R)) h)
def node_Node_apply.L1b (n : Option Addr) (commit : Int) (w : World)  (N1 : Option Addr → Int → World → Prop) (R : World → Prop) : Prop :=
  Pn n fun a =>
  LdI .i64 (a.add 3) w fun x10 =>
  Bm (decide (x10 < commit)) (
    Pn n fun a_1 =>
    LdI .i64 (a_1.add 3) w fun x16 =>
    Pn n fun a_2 =>
    Sts [.int .i64 (IntKind.i64.wrap (x16 + (1 : Int)))] (a_2.add 3) 0 w fun w1 =>
    Pn n fun a_3 =>
    LdP a_3 w1.drew fun x24 =>
    Pn n fun a_4 =>
    LdI .i64 (a_4.add 3) w1.drew fun x28 =>
    ((
      sync_Sync_At.Call x24 x28 w1.drew fun r29_0_0 r29_0_1 r29_1 w2 =>
      New (.cells #[.int .i64 (0 : Int), .string (ByteArray.mk #[])] 155) w2 fun e_ w3 =>
      Sts [.int .i64 r29_0_0, .string r29_0_1] ⟨e_, 0, none⟩ 0 w3 fun w4 =>
      node_Node_apply.B1 n commit e_ w4 N1 R) ∧ (
      New (.cells #[.int .i64 (0 : Int), .string (ByteArray.mk #[])] 155) w1.drew fun e__1 w5 =>
      w5.cell? (a_4.add 3) = some (.int .i64 x28) ∧
      w5.cell? a_3 = some (.pointer x24) ∧
      sync_Sync_At.Call x24 x28 w5 fun r29_0_0_1 r29_0_1_1 r29_1_1 w6 =>
      Sts [.int .i64 r29_0_0_1, .string r29_0_1_1] ⟨e__1, 0, none⟩ 0 w6 fun w7 =>
      node_Node_apply.B1 n commit e__1 w7 N1 R))) (
    R  w)
theorem node_Node_apply.L1b_eq (n : Option Addr) (commit : Int) (w : World)  (N1 : Option Addr → Int → World → Prop) (R : World → Prop) (sB1 : Option Addr → Int → Nat → World → Prop) :
    (
  Pn n fun a =>
  LdI .i64 (a.add 3) w fun x10 =>
  Bm (decide (x10 < commit)) (
    Pn n fun a_1 =>
    LdI .i64 (a_1.add 3) w fun x16 =>
    Pn n fun a_2 =>
    Sts [.int .i64 (IntKind.i64.wrap (x16 + (1 : Int)))] (a_2.add 3) 0 w fun w1 =>
    Pn n fun a_3 =>
    LdP a_3 w1.drew fun x24 =>
    Pn n fun a_4 =>
    LdI .i64 (a_4.add 3) w1.drew fun x28 =>
    ((
      sync_Sync_At.Call x24 x28 w1.drew fun r29_0_0 r29_0_1 r29_1 w2 =>
      New (.cells #[.int .i64 (0 : Int), .string (ByteArray.mk #[])] 155) w2 fun e_ w3 =>
      Sts [.int .i64 r29_0_0, .string r29_0_1] ⟨e_, 0, none⟩ 0 w3 fun w4 =>
      sB1 n commit e_ w4) ∧ (
      New (.cells #[.int .i64 (0 : Int), .string (ByteArray.mk #[])] 155) w1.drew fun e__1 w5 =>
      w5.cell? (a_4.add 3) = some (.int .i64 x28) ∧
      w5.cell? a_3 = some (.pointer x24) ∧
      sync_Sync_At.Call x24 x28 w5 fun r29_0_0_1 r29_0_1_1 r29_1_1 w6 =>
      Sts [.int .i64 r29_0_0_1, .string r29_0_1_1] ⟨e__1, 0, none⟩ 0 w6 fun w7 =>
      sB1 n commit e__1 w7))) (
    R  w)) = kstep Tryz.prog 47 Tryz.f145.results.toList (Tryz.f145.body.getD .skip) (node_Node_apply.RV R) (kvc Tryz.prog 47 Tryz.f145.results.toList (Tryz.f145.body.getD .skip) (node_Node_apply.RV R) [([(0, [0, 0, 1, 0, 1, 1]), (1, [1]), (2, [0, 0]), (1, [0])], fun σ w => dP (slotOf σ 0) fun n_ => dI .i64 (slotOf σ 1) fun commit_ => dK (slotOf σ 4) fun e_ => sB1 n_ commit_ e_ w)] 2000) [(0, [0, 0]), (2, [0, 0]), (1, [0])] [(0, .pointer n), (1, .int .i64 commit)] w := by kernel_rfl
theorem node_Node_apply.L1b_sound {R : World → Prop} {N1 : Option Addr → Int → World → Prop} (hN1 : ∀ n commit w, N1 n commit w → KW Tryz.prog 145 47 (node_Node_apply.RV R) ([(0, [0, 0]), (2, [0, 0]), (1, [0])].map (toItem (Tryz.f145.body.getD .skip))) [(0, .pointer n), (1, .int .i64 commit)] w) (n : Option Addr) (commit : Int) (w : World) (h : node_Node_apply.L1b n commit w  N1 R) :
    KW Tryz.prog 145 47 (node_Node_apply.RV R) ([(0, [0, 0]), (2, [0, 0]), (1, [0])].map (toItem (Tryz.f145.body.getD .skip))) [(0, .pointer n), (1, .int .i64 commit)] w := by
  exact block_spec Tryz.func145 Tryz.mixed (stops_cons (fun σ w h => by
      obtain ⟨n_, e0, h⟩ := dP_elim h
      obtain ⟨commit_, e1, h⟩ := dI_elim h
      obtain ⟨e_, e2, h⟩ := dK_elim h
      exact (node_Node_apply.B1_sound hN1 n_ commit_ e_ w h).weaken (Sub.cons (Sub.cons (Sub.cons (Sub.nil _) e2) e1) e0)) stops_nil) (Eq.mp (node_Node_apply.L1b_eq n commit w  N1 R (fun n_ commit_ e_ w => node_Node_apply.B1 n_ commit_ e_ w N1 R)) h)
def node_Node_apply.L1 (n : Option Addr) (commit : Int) (w : World)  (R : World → Prop) : Prop :=
  ∃ (I : Nat → Option Addr → Int → World → Prop) (m : Nat), I m n commit w ∧ ∀ m n commit w, I m n commit w → node_Node_apply.L1b n commit w  (fun n' commit' w' => ∃ m', m' < m ∧ I m' n' commit' w') R
theorem node_Node_apply.L1_sound {R : World → Prop}  (n : Option Addr) (commit : Int) (w : World) (h : node_Node_apply.L1 n commit w  R) :
    KW Tryz.prog 145 47 (node_Node_apply.RV R) ([(0, [0, 0]), (2, [0, 0]), (1, [0])].map (toItem (Tryz.f145.body.getD .skip))) [(0, .pointer n), (1, .int .i64 commit)] w := by
  obtain ⟨I, m, hBase, hr⟩ := h
  refine KW.loop (fun m σ w => ∃ (n : Option Addr) (commit : Int), σ = [(0, .pointer n), (1, .int .i64 commit)] ∧ I m n commit w) ?_ m _ w ⟨n, commit, rfl, hBase⟩
  rintro m ih σ w ⟨n, commit, rfl, hI⟩
  exact node_Node_apply.L1b_sound  (N1 := fun n' commit' w' => ∃ m', m' < m ∧ I m' n' commit' w') (fun n' commit' w' hx => by obtain ⟨m', hlt, hI'⟩ := hx; exact ih m' hlt _ w' ⟨n', commit', rfl, hI'⟩) n commit w (hr m n commit w hI)
def node_Node_apply.B0 (n : Option Addr) (commit : Int) (w : World)   (R : World → Prop) : Prop :=
  node_Node_apply.L1 n commit w  R
theorem node_Node_apply.B0_eq (n : Option Addr) (commit : Int) (w : World)   (R : World → Prop) (sL1 : Option Addr → Int → World → Prop) :
    (
  sL1 n commit w) = kstep Tryz.prog 47 Tryz.f145.results.toList (Tryz.f145.body.getD .skip) (node_Node_apply.RV R) (kvc Tryz.prog 47 Tryz.f145.results.toList (Tryz.f145.body.getD .skip) (node_Node_apply.RV R) [([(0, [0, 0]), (2, [0, 0]), (1, [0])], fun σ w => dP (slotOf σ 0) fun n_ => dI .i64 (slotOf σ 1) fun commit_ => sL1 n_ commit_ w)] 2000) [(0, [])] [(0, .pointer n), (1, .int .i64 commit)] w := by kernel_rfl
theorem node_Node_apply.B0_sound {R : World → Prop}  (n : Option Addr) (commit : Int) (w : World) (h : node_Node_apply.B0 n commit w   R) :
    KW Tryz.prog 145 47 (node_Node_apply.RV R) ([(0, [])].map (toItem (Tryz.f145.body.getD .skip))) [(0, .pointer n), (1, .int .i64 commit)] w := by
  exact block_spec Tryz.func145 Tryz.mixed (stops_cons (fun σ w h => by
      obtain ⟨n_, e0, h⟩ := dP_elim h
      obtain ⟨commit_, e1, h⟩ := dI_elim h
      exact (node_Node_apply.L1_sound  n_ commit_ w h).weaken (Sub.cons (Sub.cons (Sub.nil _) e1) e0)) stops_nil) (Eq.mp (node_Node_apply.B0_eq n commit w   R (fun n_ commit_ w => node_Node_apply.L1 n_ commit_ w  R)) h)
theorem node_Node_apply.sound (n : Option Addr) (commit : Int) (w : World) (R : World → Prop) (h : node_Node_apply.B0 n commit w R) : node_Node_apply.Call n commit w R := by
  have hc := calls_of_block (args := #[.pointer n, .int .i64 commit]) Tryz.func145 (body := (Tryz.f145.body.getD .skip)) (by kernel_rfl) (by kernel_rfl) (args_slot _) (node_Node_apply.B0_sound n commit w h)
  exact hc.mono fun e w' he => by
    obtain ⟨v, rfl, hv⟩ := he
    exact node_Node_apply.RV_elim hv
def node_Node_giveUp.B2 (n : Option Addr) (role c : Int) (w : World) (N1 : Option Addr → Int → Int → World → Prop)  (R : World → Prop) : Prop :=
  N1 n role (IntKind.i64.wrap (c + (1 : Int))) w
theorem node_Node_giveUp.B2_eq (n : Option Addr) (role c : Int) (w : World) (N1 : Option Addr → Int → Int → World → Prop)  (R : World → Prop)  :
    (
  N1 n role (IntKind.i64.wrap (c + (1 : Int))) w) = kstep Tryz.prog 36 Tryz.f146.results.toList (Tryz.f146.body.getD .skip) (node_Node_giveUp.RV R) (kvc Tryz.prog 36 Tryz.f146.results.toList (Tryz.f146.body.getD .skip) (node_Node_giveUp.RV R) [([(0, [1, 0, 0]), (2, [1, 0, 0]), (1, [0])], fun σ w => dP (slotOf σ 0) fun n_ => dI .i64 (slotOf σ 1) fun role_ => dI .i64 (slotOf σ 4) fun c_ => N1 n_ role_ c_ w)] 2000) [(0, [1, 0, 0, 1, 1]), (2, [1, 0, 0]), (1, [0])] [(0, .pointer n), (1, .int .i64 role), (4, .int .i64 c)] w := by kernel_rfl
theorem node_Node_giveUp.B2_sound {R : World → Prop} {N1 : Option Addr → Int → Int → World → Prop} (hN1 : ∀ n role c w, N1 n role c w → KW Tryz.prog 146 36 (node_Node_giveUp.RV R) ([(0, [1, 0, 0]), (2, [1, 0, 0]), (1, [0])].map (toItem (Tryz.f146.body.getD .skip))) [(0, .pointer n), (1, .int .i64 role), (4, .int .i64 c)] w) (n : Option Addr) (role c : Int) (w : World) (h : node_Node_giveUp.B2 n role c w N1  R) :
    KW Tryz.prog 146 36 (node_Node_giveUp.RV R) ([(0, [1, 0, 0, 1, 1]), (2, [1, 0, 0]), (1, [0])].map (toItem (Tryz.f146.body.getD .skip))) [(0, .pointer n), (1, .int .i64 role), (4, .int .i64 c)] w := by
  exact block_spec Tryz.func146 Tryz.mixed (stops_cons (fun σ w h => by
      obtain ⟨n_, e0, h⟩ := dP_elim h
      obtain ⟨role_, e1, h⟩ := dI_elim h
      obtain ⟨c_, e2, h⟩ := dI_elim h
      exact (hN1 n_ role_ c_ w h).weaken (Sub.cons (Sub.cons (Sub.cons (Sub.nil _) e2) e1) e0)) stops_nil) (Eq.mp (node_Node_giveUp.B2_eq n role c w N1  R ) h)
def node_Node_giveUp.B1 (n : Option Addr) (role c : Int) (t31 : Bool) (w : World) (N1 : Option Addr → Int → Int → World → Prop)  (R : World → Prop) : Prop :=
  Bm t31 (
    node_Node_reply.Call n c (13 : Int) (ByteArray.mk #[]) w fun w1 =>
    node_Node_giveUp.B2 n role c w1 N1 R) (
    node_Node_giveUp.B2 n role c w N1 R)
theorem node_Node_giveUp.B1_eq (n : Option Addr) (role c : Int) (t31 : Bool) (w : World) (N1 : Option Addr → Int → Int → World → Prop)  (R : World → Prop) (sB2 : Option Addr → Int → Int → World → Prop) :
    (
  Bm t31 (
    node_Node_reply.Call n c (13 : Int) (ByteArray.mk #[]) w fun w1 =>
    sB2 n role c w1) (
    sB2 n role c w)) = kstep Tryz.prog 36 Tryz.f146.results.toList (Tryz.f146.body.getD .skip) (node_Node_giveUp.RV R) (kvc Tryz.prog 36 Tryz.f146.results.toList (Tryz.f146.body.getD .skip) (node_Node_giveUp.RV R) [([(0, [1, 0, 0, 1, 1]), (2, [1, 0, 0]), (1, [0])], fun σ w => dP (slotOf σ 0) fun n_ => dI .i64 (slotOf σ 1) fun role_ => dI .i64 (slotOf σ 4) fun c_ => sB2 n_ role_ c_ w)] 2000) [(0, [1, 0, 0, 1, 0, 0, 1]), (1, [1]), (0, [1, 0, 0, 1, 1]), (2, [1, 0, 0]), (1, [0])] [(0, .pointer n), (1, .int .i64 role), (4, .int .i64 c), (31, .bool t31)] w := by kernel_rfl
theorem node_Node_giveUp.B1_sound {R : World → Prop} {N1 : Option Addr → Int → Int → World → Prop} (hN1 : ∀ n role c w, N1 n role c w → KW Tryz.prog 146 36 (node_Node_giveUp.RV R) ([(0, [1, 0, 0]), (2, [1, 0, 0]), (1, [0])].map (toItem (Tryz.f146.body.getD .skip))) [(0, .pointer n), (1, .int .i64 role), (4, .int .i64 c)] w) (n : Option Addr) (role c : Int) (t31 : Bool) (w : World) (h : node_Node_giveUp.B1 n role c t31 w N1  R) :
    KW Tryz.prog 146 36 (node_Node_giveUp.RV R) ([(0, [1, 0, 0, 1, 0, 0, 1]), (1, [1]), (0, [1, 0, 0, 1, 1]), (2, [1, 0, 0]), (1, [0])].map (toItem (Tryz.f146.body.getD .skip))) [(0, .pointer n), (1, .int .i64 role), (4, .int .i64 c), (31, .bool t31)] w := by
  exact block_spec Tryz.func146 Tryz.mixed (stops_cons (fun σ w h => by
      obtain ⟨n_, e0, h⟩ := dP_elim h
      obtain ⟨role_, e1, h⟩ := dI_elim h
      obtain ⟨c_, e2, h⟩ := dI_elim h
      exact (node_Node_giveUp.B2_sound hN1 n_ role_ c_ w h).weaken (Sub.cons (Sub.cons (Sub.cons (Sub.nil _) e2) e1) e0)) stops_nil) (Eq.mp (node_Node_giveUp.B1_eq n role c t31 w N1  R (fun n_ role_ c_ w => node_Node_giveUp.B2 n_ role_ c_ w N1 R)) h)
def node_Node_giveUp.L1b (n : Option Addr) (role c : Int) (w : World)  (N1 : Option Addr → Int → Int → World → Prop) (R : World → Prop) : Prop :=
  Bm (decide (c < (3 : Int))) (
    Pn n fun a =>
    (0 ≤ c ∧ c < ((3 : Nat) : Int)) ∧
    LdB (Addr.add (a.add 4) (c.toNat * 1)) w.drew fun x14 =>
    Bm x14 (
      Bm (role != (2 : Int)) (
        node_Node_giveUp.B1 n role c true w.drew N1 R) (
        Pn n fun a_1 =>
        (0 ≤ c ∧ c < ((3 : Nat) : Int)) ∧
        LdI .i64 (Addr.add (a_1.add 10) (c.toNat * 1)) w.drew fun x24 =>
        Pn n fun a_2 =>
        LdI .i64 (a_2.add 3) w.drew fun x28 =>
        node_Node_giveUp.B1 n role c (decide (x24 ≤ x28)) w.drew N1 R)) (
      node_Node_giveUp.B1 n role c false w.drew N1 R)) (
    R  w)
theorem node_Node_giveUp.L1b_eq (n : Option Addr) (role c : Int) (w : World)  (N1 : Option Addr → Int → Int → World → Prop) (R : World → Prop) (sB1 : Option Addr → Int → Int → Bool → World → Prop) :
    (
  Bm (decide (c < (3 : Int))) (
    Pn n fun a =>
    (0 ≤ c ∧ c < ((3 : Nat) : Int)) ∧
    LdB (Addr.add (a.add 4) (c.toNat * 1)) w.drew fun x14 =>
    Bm x14 (
      Bm (role != (2 : Int)) (
        sB1 n role c true w.drew) (
        Pn n fun a_1 =>
        (0 ≤ c ∧ c < ((3 : Nat) : Int)) ∧
        LdI .i64 (Addr.add (a_1.add 10) (c.toNat * 1)) w.drew fun x24 =>
        Pn n fun a_2 =>
        LdI .i64 (a_2.add 3) w.drew fun x28 =>
        sB1 n role c (decide (x24 ≤ x28)) w.drew)) (
      sB1 n role c false w.drew)) (
    R  w)) = kstep Tryz.prog 36 Tryz.f146.results.toList (Tryz.f146.body.getD .skip) (node_Node_giveUp.RV R) (kvc Tryz.prog 36 Tryz.f146.results.toList (Tryz.f146.body.getD .skip) (node_Node_giveUp.RV R) [([(0, [1, 0, 0, 1, 0, 0, 1]), (1, [1]), (0, [1, 0, 0, 1, 1]), (2, [1, 0, 0]), (1, [0])], fun σ w => dP (slotOf σ 0) fun n_ => dI .i64 (slotOf σ 1) fun role_ => dI .i64 (slotOf σ 4) fun c_ => dB (slotOf σ 31) fun t31_ => sB1 n_ role_ c_ t31_ w)] 2000) [(0, [1, 0, 0]), (2, [1, 0, 0]), (1, [0])] [(0, .pointer n), (1, .int .i64 role), (4, .int .i64 c)] w := by kernel_rfl
theorem node_Node_giveUp.L1b_sound {R : World → Prop} {N1 : Option Addr → Int → Int → World → Prop} (hN1 : ∀ n role c w, N1 n role c w → KW Tryz.prog 146 36 (node_Node_giveUp.RV R) ([(0, [1, 0, 0]), (2, [1, 0, 0]), (1, [0])].map (toItem (Tryz.f146.body.getD .skip))) [(0, .pointer n), (1, .int .i64 role), (4, .int .i64 c)] w) (n : Option Addr) (role c : Int) (w : World) (h : node_Node_giveUp.L1b n role c w  N1 R) :
    KW Tryz.prog 146 36 (node_Node_giveUp.RV R) ([(0, [1, 0, 0]), (2, [1, 0, 0]), (1, [0])].map (toItem (Tryz.f146.body.getD .skip))) [(0, .pointer n), (1, .int .i64 role), (4, .int .i64 c)] w := by
  exact block_spec Tryz.func146 Tryz.mixed (stops_cons (fun σ w h => by
      obtain ⟨n_, e0, h⟩ := dP_elim h
      obtain ⟨role_, e1, h⟩ := dI_elim h
      obtain ⟨c_, e2, h⟩ := dI_elim h
      obtain ⟨t31_, e3, h⟩ := dB_elim h
      exact (node_Node_giveUp.B1_sound hN1 n_ role_ c_ t31_ w h).weaken (Sub.cons (Sub.cons (Sub.cons (Sub.cons (Sub.nil _) e3) e2) e1) e0)) stops_nil) (Eq.mp (node_Node_giveUp.L1b_eq n role c w  N1 R (fun n_ role_ c_ t31_ w => node_Node_giveUp.B1 n_ role_ c_ t31_ w N1 R)) h)
def node_Node_giveUp.L1 (n : Option Addr) (role c : Int) (w : World)  (R : World → Prop) : Prop :=
  ∃ (I : Nat → Option Addr → Int → Int → World → Prop) (m : Nat), I m n role c w ∧ ∀ m n role c w, I m n role c w → node_Node_giveUp.L1b n role c w  (fun n' role' c' w' => ∃ m', m' < m ∧ I m' n' role' c' w') R
theorem node_Node_giveUp.L1_sound {R : World → Prop}  (n : Option Addr) (role c : Int) (w : World) (h : node_Node_giveUp.L1 n role c w  R) :
    KW Tryz.prog 146 36 (node_Node_giveUp.RV R) ([(0, [1, 0, 0]), (2, [1, 0, 0]), (1, [0])].map (toItem (Tryz.f146.body.getD .skip))) [(0, .pointer n), (1, .int .i64 role), (4, .int .i64 c)] w := by
  obtain ⟨I, m, hBase, hr⟩ := h
  refine KW.loop (fun m σ w => ∃ (n : Option Addr) (role c : Int), σ = [(0, .pointer n), (1, .int .i64 role), (4, .int .i64 c)] ∧ I m n role c w) ?_ m _ w ⟨n, role, c, rfl, hBase⟩
  rintro m ih σ w ⟨n, role, c, rfl, hI⟩
  exact node_Node_giveUp.L1b_sound  (N1 := fun n' role' c' w' => ∃ m', m' < m ∧ I m' n' role' c' w') (fun n' role' c' w' hx => by obtain ⟨m', hlt, hI'⟩ := hx; exact ih m' hlt _ w' ⟨n', role', c', rfl, hI'⟩) n role c w (hr m n role c w hI)
def node_Node_giveUp.B0 (n : Option Addr) (role : Int) (w : World)   (R : World → Prop) : Prop :=
  node_Node_giveUp.L1 n role (0 : Int) w  R
theorem node_Node_giveUp.B0_eq (n : Option Addr) (role : Int) (w : World)   (R : World → Prop) (sL1 : Option Addr → Int → Int → World → Prop) :
    (
  sL1 n role (0 : Int) w) = kstep Tryz.prog 36 Tryz.f146.results.toList (Tryz.f146.body.getD .skip) (node_Node_giveUp.RV R) (kvc Tryz.prog 36 Tryz.f146.results.toList (Tryz.f146.body.getD .skip) (node_Node_giveUp.RV R) [([(0, [1, 0, 0]), (2, [1, 0, 0]), (1, [0])], fun σ w => dP (slotOf σ 0) fun n_ => dI .i64 (slotOf σ 1) fun role_ => dI .i64 (slotOf σ 4) fun c_ => sL1 n_ role_ c_ w)] 2000) [(0, [])] [(0, .pointer n), (1, .int .i64 role)] w := by kernel_rfl
theorem node_Node_giveUp.B0_sound {R : World → Prop}  (n : Option Addr) (role : Int) (w : World) (h : node_Node_giveUp.B0 n role w   R) :
    KW Tryz.prog 146 36 (node_Node_giveUp.RV R) ([(0, [])].map (toItem (Tryz.f146.body.getD .skip))) [(0, .pointer n), (1, .int .i64 role)] w := by
  exact block_spec Tryz.func146 Tryz.mixed (stops_cons (fun σ w h => by
      obtain ⟨n_, e0, h⟩ := dP_elim h
      obtain ⟨role_, e1, h⟩ := dI_elim h
      obtain ⟨c_, e2, h⟩ := dI_elim h
      exact (node_Node_giveUp.L1_sound  n_ role_ c_ w h).weaken (Sub.cons (Sub.cons (Sub.cons (Sub.nil _) e2) e1) e0)) stops_nil) (Eq.mp (node_Node_giveUp.B0_eq n role w   R (fun n_ role_ c_ w => node_Node_giveUp.L1 n_ role_ c_ w  R)) h)
theorem node_Node_giveUp.sound (n : Option Addr) (role : Int) (w : World) (R : World → Prop) (h : node_Node_giveUp.B0 n role w R) : node_Node_giveUp.Call n role w R := by
  have hc := calls_of_block (args := #[.pointer n, .int .i64 role]) Tryz.func146 (body := (Tryz.f146.body.getD .skip)) (by kernel_rfl) (by kernel_rfl) (args_slot _) (node_Node_giveUp.B0_sound n role w h)
  exact hc.mono fun e w' he => by
    obtain ⟨v, rfl, hv⟩ := he
    exact node_Node_giveUp.RV_elim hv
def node_Node_did.L2b (n msgs_b : Option Addr) (msgs_l msgs_c t4 d : Nat) (i : Int) (w : World)  (N2 : Option Addr → Option Addr → Nat → Nat → Nat → Nat → Int → World → Prop) (R : Int → Option Addr → Nat → Nat → Option Addr → Nat → Nat → World → Prop) : Prop :=
  Bm (decide (i < ((msgs_l : Nat) : Int))) (
    Pn n fun a =>
    LdP (a.add 26) w.drew fun x54 =>
    Pn msgs_b fun a_1 =>
    (0 ≤ i ∧ i < ((msgs_l : Nat) : Int)) ∧
    LdI .i64 (Addr.add a_1 (i.toNat * 10)) w.drew fun x58_0 =>
    LdI .i64 ((Addr.add a_1 (i.toNat * 10)).add 1) w.drew fun x58_1 =>
    LdI .i64 ((Addr.add a_1 (i.toNat * 10)).add 2) w.drew fun x58_2 =>
    LdI .i64 ((Addr.add a_1 (i.toNat * 10)).add 3) w.drew fun x58_3 =>
    LdI .i64 ((Addr.add a_1 (i.toNat * 10)).add 4) w.drew fun x58_4 =>
    LdI .i64 ((Addr.add a_1 (i.toNat * 10)).add 5) w.drew fun x58_5 =>
    LdI .i64 ((Addr.add a_1 (i.toNat * 10)).add 6) w.drew fun x58_6 =>
    LdB ((Addr.add a_1 (i.toNat * 10)).add 7) w.drew fun x58_7 =>
    LdL ((Addr.add a_1 (i.toNat * 10)).add 8) w.drew fun x58_8_b x58_8_l x58_8_c =>
    LdS ((Addr.add a_1 (i.toNat * 10)).add 9) w.drew fun x58_9 =>
    node_enc_encode.Call x54 x58_0 x58_1 x58_2 x58_3 x58_4 x58_5 x58_6 x58_7 x58_8_b x58_8_l x58_8_c x58_9 w.drew fun r59 w1 =>
    LdL ⟨d, 1, none⟩ w1.drew fun x61_b x61_l x61_c =>
    Pn msgs_b fun a_2 =>
    (0 ≤ i ∧ i < ((msgs_l : Nat) : Int)) ∧
    LdI .i64 ((Addr.add a_2 (i.toNat * 10)).add 2) w1.drew fun x67 =>
    Pn x61_b fun a_3 =>
    (0 ≤ i ∧ i < ((x61_l : Nat) : Int)) ∧
    Sts [.int .i64 x67, .string r59] (Addr.add a_3 (i.toNat * 2)) 0 w1.drew fun w2 =>
    N2 n msgs_b msgs_l msgs_c t4 d (IntKind.i64.wrap (i + (1 : Int))) w2) (
    LdI .i64 ⟨d, 0, none⟩ w fun x71_0 =>
    LdL ⟨d, 1, none⟩ w fun x71_1_b x71_1_l x71_1_c =>
    LdL ⟨d, 2, none⟩ w fun x71_2_b x71_2_l x71_2_c =>
    Sts [.int .i64 x71_0, .slice x71_1_b x71_1_l x71_1_c, .slice x71_2_b x71_2_l x71_2_c] ⟨t4, 0, none⟩ 0 w fun w3 =>
    LdI .i64 ⟨t4, 0, none⟩ w3 fun r_0 =>
    LdL ⟨t4, 1, none⟩ w3 fun r_1_b r_1_l r_1_c =>
    LdL ⟨t4, 2, none⟩ w3 fun r_2_b r_2_l r_2_c =>
    R r_0 r_1_b r_1_l r_1_c r_2_b r_2_l r_2_c w3)
theorem node_Node_did.L2b_eq (n msgs_b : Option Addr) (msgs_l msgs_c t4 d : Nat) (i : Int) (w : World)  (N2 : Option Addr → Option Addr → Nat → Nat → Nat → Nat → Int → World → Prop) (R : Int → Option Addr → Nat → Nat → Option Addr → Nat → Nat → World → Prop)  :
    (
  Bm (decide (i < ((msgs_l : Nat) : Int))) (
    Pn n fun a =>
    LdP (a.add 26) w.drew fun x54 =>
    Pn msgs_b fun a_1 =>
    (0 ≤ i ∧ i < ((msgs_l : Nat) : Int)) ∧
    LdI .i64 (Addr.add a_1 (i.toNat * 10)) w.drew fun x58_0 =>
    LdI .i64 ((Addr.add a_1 (i.toNat * 10)).add 1) w.drew fun x58_1 =>
    LdI .i64 ((Addr.add a_1 (i.toNat * 10)).add 2) w.drew fun x58_2 =>
    LdI .i64 ((Addr.add a_1 (i.toNat * 10)).add 3) w.drew fun x58_3 =>
    LdI .i64 ((Addr.add a_1 (i.toNat * 10)).add 4) w.drew fun x58_4 =>
    LdI .i64 ((Addr.add a_1 (i.toNat * 10)).add 5) w.drew fun x58_5 =>
    LdI .i64 ((Addr.add a_1 (i.toNat * 10)).add 6) w.drew fun x58_6 =>
    LdB ((Addr.add a_1 (i.toNat * 10)).add 7) w.drew fun x58_7 =>
    LdL ((Addr.add a_1 (i.toNat * 10)).add 8) w.drew fun x58_8_b x58_8_l x58_8_c =>
    LdS ((Addr.add a_1 (i.toNat * 10)).add 9) w.drew fun x58_9 =>
    node_enc_encode.Call x54 x58_0 x58_1 x58_2 x58_3 x58_4 x58_5 x58_6 x58_7 x58_8_b x58_8_l x58_8_c x58_9 w.drew fun r59 w1 =>
    LdL ⟨d, 1, none⟩ w1.drew fun x61_b x61_l x61_c =>
    Pn msgs_b fun a_2 =>
    (0 ≤ i ∧ i < ((msgs_l : Nat) : Int)) ∧
    LdI .i64 ((Addr.add a_2 (i.toNat * 10)).add 2) w1.drew fun x67 =>
    Pn x61_b fun a_3 =>
    (0 ≤ i ∧ i < ((x61_l : Nat) : Int)) ∧
    Sts [.int .i64 x67, .string r59] (Addr.add a_3 (i.toNat * 2)) 0 w1.drew fun w2 =>
    N2 n msgs_b msgs_l msgs_c t4 d (IntKind.i64.wrap (i + (1 : Int))) w2) (
    LdI .i64 ⟨d, 0, none⟩ w fun x71_0 =>
    LdL ⟨d, 1, none⟩ w fun x71_1_b x71_1_l x71_1_c =>
    LdL ⟨d, 2, none⟩ w fun x71_2_b x71_2_l x71_2_c =>
    Sts [.int .i64 x71_0, .slice x71_1_b x71_1_l x71_1_c, .slice x71_2_b x71_2_l x71_2_c] ⟨t4, 0, none⟩ 0 w fun w3 =>
    LdI .i64 ⟨t4, 0, none⟩ w3 fun r_0 =>
    LdL ⟨t4, 1, none⟩ w3 fun r_1_b r_1_l r_1_c =>
    LdL ⟨t4, 2, none⟩ w3 fun r_2_b r_2_l r_2_c =>
    R r_0 r_1_b r_1_l r_1_c r_2_b r_2_l r_2_c w3)) = kstep Tryz.prog 72 Tryz.f147.results.toList (Tryz.f147.body.getD .skip) (node_Node_did.RV R) (kvc Tryz.prog 72 Tryz.f147.results.toList (Tryz.f147.body.getD .skip) (node_Node_did.RV R) [([(0, [1, 1, 1, 0, 1, 0, 1, 1, 0, 0]), (2, [1, 1, 1, 0, 1, 0, 1, 1, 0, 0]), (1, [2]), (0, [1, 1, 1, 1])], fun σ w => dP (slotOf σ 0) fun n_ => dL (slotOf σ 1) fun msgs_b_ msgs_l_ msgs_c_ => dK (slotOf σ 4) fun t4_ => dK (slotOf σ 5) fun d_ => dI .i64 (slotOf σ 7) fun i_ => N2 n_ msgs_b_ msgs_l_ msgs_c_ t4_ d_ i_ w)] 2000) [(0, [1, 1, 1, 0, 1, 0, 1, 1, 0, 0]), (2, [1, 1, 1, 0, 1, 0, 1, 1, 0, 0]), (1, [2]), (0, [1, 1, 1, 1])] [(0, .pointer n), (1, .slice msgs_b msgs_l msgs_c), (4, .pointer (some ⟨t4, 0, none⟩)), (5, .pointer (some ⟨d, 0, none⟩)), (7, .int .i64 i)] w := by kernel_rfl
theorem node_Node_did.L2b_sound {R : Int → Option Addr → Nat → Nat → Option Addr → Nat → Nat → World → Prop} {N2 : Option Addr → Option Addr → Nat → Nat → Nat → Nat → Int → World → Prop} (hN2 : ∀ n msgs_b msgs_l msgs_c t4 d i w, N2 n msgs_b msgs_l msgs_c t4 d i w → KW Tryz.prog 147 72 (node_Node_did.RV R) ([(0, [1, 1, 1, 0, 1, 0, 1, 1, 0, 0]), (2, [1, 1, 1, 0, 1, 0, 1, 1, 0, 0]), (1, [2]), (0, [1, 1, 1, 1])].map (toItem (Tryz.f147.body.getD .skip))) [(0, .pointer n), (1, .slice msgs_b msgs_l msgs_c), (4, .pointer (some ⟨t4, 0, none⟩)), (5, .pointer (some ⟨d, 0, none⟩)), (7, .int .i64 i)] w) (n msgs_b : Option Addr) (msgs_l msgs_c t4 d : Nat) (i : Int) (w : World) (h : node_Node_did.L2b n msgs_b msgs_l msgs_c t4 d i w  N2 R) :
    KW Tryz.prog 147 72 (node_Node_did.RV R) ([(0, [1, 1, 1, 0, 1, 0, 1, 1, 0, 0]), (2, [1, 1, 1, 0, 1, 0, 1, 1, 0, 0]), (1, [2]), (0, [1, 1, 1, 1])].map (toItem (Tryz.f147.body.getD .skip))) [(0, .pointer n), (1, .slice msgs_b msgs_l msgs_c), (4, .pointer (some ⟨t4, 0, none⟩)), (5, .pointer (some ⟨d, 0, none⟩)), (7, .int .i64 i)] w := by
  exact block_spec Tryz.func147 Tryz.mixed (stops_cons (fun σ w h => by
      obtain ⟨n_, e0, h⟩ := dP_elim h
      obtain ⟨msgs_b_, msgs_l_, msgs_c_, e1, h⟩ := dL_elim h
      obtain ⟨t4_, e2, h⟩ := dK_elim h
      obtain ⟨d_, e3, h⟩ := dK_elim h
      obtain ⟨i_, e4, h⟩ := dI_elim h
      exact (hN2 n_ msgs_b_ msgs_l_ msgs_c_ t4_ d_ i_ w h).weaken (Sub.cons (Sub.cons (Sub.cons (Sub.cons (Sub.cons (Sub.nil _) e4) e3) e2) e1) e0)) stops_nil) (Eq.mp (node_Node_did.L2b_eq n msgs_b msgs_l msgs_c t4 d i w  N2 R ) h)
def node_Node_did.L2 (n msgs_b : Option Addr) (msgs_l msgs_c t4 d : Nat) (i : Int) (w : World)  (R : Int → Option Addr → Nat → Nat → Option Addr → Nat → Nat → World → Prop) : Prop :=
  ∃ (I : Nat → Option Addr → Option Addr → Nat → Nat → Nat → Nat → Int → World → Prop) (m : Nat), I m n msgs_b msgs_l msgs_c t4 d i w ∧ ∀ m n msgs_b msgs_l msgs_c t4 d i w, I m n msgs_b msgs_l msgs_c t4 d i w → node_Node_did.L2b n msgs_b msgs_l msgs_c t4 d i w  (fun n' msgs_b' msgs_l' msgs_c' t4' d' i' w' => ∃ m', m' < m ∧ I m' n' msgs_b' msgs_l' msgs_c' t4' d' i' w') R
theorem node_Node_did.L2_sound {R : Int → Option Addr → Nat → Nat → Option Addr → Nat → Nat → World → Prop}  (n msgs_b : Option Addr) (msgs_l msgs_c t4 d : Nat) (i : Int) (w : World) (h : node_Node_did.L2 n msgs_b msgs_l msgs_c t4 d i w  R) :
    KW Tryz.prog 147 72 (node_Node_did.RV R) ([(0, [1, 1, 1, 0, 1, 0, 1, 1, 0, 0]), (2, [1, 1, 1, 0, 1, 0, 1, 1, 0, 0]), (1, [2]), (0, [1, 1, 1, 1])].map (toItem (Tryz.f147.body.getD .skip))) [(0, .pointer n), (1, .slice msgs_b msgs_l msgs_c), (4, .pointer (some ⟨t4, 0, none⟩)), (5, .pointer (some ⟨d, 0, none⟩)), (7, .int .i64 i)] w := by
  obtain ⟨I, m, hBase, hr⟩ := h
  refine KW.loop (fun m σ w => ∃ (n msgs_b : Option Addr) (msgs_l msgs_c t4 d : Nat) (i : Int), σ = [(0, .pointer n), (1, .slice msgs_b msgs_l msgs_c), (4, .pointer (some ⟨t4, 0, none⟩)), (5, .pointer (some ⟨d, 0, none⟩)), (7, .int .i64 i)] ∧ I m n msgs_b msgs_l msgs_c t4 d i w) ?_ m _ w ⟨n, msgs_b, msgs_l, msgs_c, t4, d, i, rfl, hBase⟩
  rintro m ih σ w ⟨n, msgs_b, msgs_l, msgs_c, t4, d, i, rfl, hI⟩
  exact node_Node_did.L2b_sound  (N2 := fun n' msgs_b' msgs_l' msgs_c' t4' d' i' w' => ∃ m', m' < m ∧ I m' n' msgs_b' msgs_l' msgs_c' t4' d' i' w') (fun n' msgs_b' msgs_l' msgs_c' t4' d' i' w' hx => by obtain ⟨m', hlt, hI'⟩ := hx; exact ih m' hlt _ w' ⟨n', msgs_b', msgs_l', msgs_c', t4', d', i', rfl, hI'⟩) n msgs_b msgs_l msgs_c t4 d i w (hr m n msgs_b msgs_l msgs_c t4 d i w hI)
def node_Node_did.L1b (n msgs_b : Option Addr) (msgs_l msgs_c t4 d : Nat) (i : Int) (w : World)  (N1 : Option Addr → Option Addr → Nat → Nat → Nat → Nat → Int → World → Prop) (R : Int → Option Addr → Nat → Nat → Option Addr → Nat → Nat → World → Prop) : Prop :=
  Pn n fun a =>
  LdI .i64 (a.add 25) w fun x24 =>
  Bm (decide (i < x24)) (
    LdL ⟨d, 2, none⟩ w.drew fun x29_b x29_l x29_c =>
    Pn n fun a_1 =>
    (0 ≤ i ∧ i < ((3 : Nat) : Int)) ∧
    LdI .i64 (Addr.add (a_1.add 13) (i.toNat * 4)) w.drew fun x36_0 =>
    LdI .i64 ((Addr.add (a_1.add 13) (i.toNat * 4)).add 1) w.drew fun x36_1 =>
    LdI .i64 ((Addr.add (a_1.add 13) (i.toNat * 4)).add 2) w.drew fun x36_2 =>
    LdS ((Addr.add (a_1.add 13) (i.toNat * 4)).add 3) w.drew fun x36_3 =>
    Pn x29_b fun a_2 =>
    (0 ≤ i ∧ i < ((x29_l : Nat) : Int)) ∧
    Sts [.int .i64 x36_0, .int .i64 x36_1, .int .i64 x36_2, .string x36_3] (Addr.add a_2 (i.toNat * 4)) 0 w.drew fun w1 =>
    N1 n msgs_b msgs_l msgs_c t4 d (IntKind.i64.wrap (i + (1 : Int))) w1) (
    Bm (decide (((msgs_l : Nat) : Int) > (0 : Int))) (
      Make 91 (.agg #[.int .i64 (0 : Int), .string (ByteArray.mk #[])]) 2 24 ((msgs_l : Nat) : Int) ((msgs_l : Nat) : Int) w fun b43 w2 =>
      Sts [.slice (some ⟨b43, 0, none⟩) (((msgs_l : Nat) : Int).toNat) (((msgs_l : Nat) : Int).toNat)] ⟨d, 1, none⟩ 0 w2 fun w3 =>
      node_Node_did.L2 n msgs_b msgs_l msgs_c t4 d (0 : Int) w3  R) (
      LdI .i64 ⟨d, 0, none⟩ w fun x71_0 =>
      LdL ⟨d, 1, none⟩ w fun x71_1_b x71_1_l x71_1_c =>
      LdL ⟨d, 2, none⟩ w fun x71_2_b x71_2_l x71_2_c =>
      Sts [.int .i64 x71_0, .slice x71_1_b x71_1_l x71_1_c, .slice x71_2_b x71_2_l x71_2_c] ⟨t4, 0, none⟩ 0 w fun w4 =>
      LdI .i64 ⟨t4, 0, none⟩ w4 fun r_0 =>
      LdL ⟨t4, 1, none⟩ w4 fun r_1_b r_1_l r_1_c =>
      LdL ⟨t4, 2, none⟩ w4 fun r_2_b r_2_l r_2_c =>
      R r_0 r_1_b r_1_l r_1_c r_2_b r_2_l r_2_c w4))
theorem node_Node_did.L1b_eq (n msgs_b : Option Addr) (msgs_l msgs_c t4 d : Nat) (i : Int) (w : World)  (N1 : Option Addr → Option Addr → Nat → Nat → Nat → Nat → Int → World → Prop) (R : Int → Option Addr → Nat → Nat → Option Addr → Nat → Nat → World → Prop) (sL2 : Option Addr → Option Addr → Nat → Nat → Nat → Nat → Int → World → Prop) :
    (
  Pn n fun a =>
  LdI .i64 (a.add 25) w fun x24 =>
  Bm (decide (i < x24)) (
    LdL ⟨d, 2, none⟩ w.drew fun x29_b x29_l x29_c =>
    Pn n fun a_1 =>
    (0 ≤ i ∧ i < ((3 : Nat) : Int)) ∧
    LdI .i64 (Addr.add (a_1.add 13) (i.toNat * 4)) w.drew fun x36_0 =>
    LdI .i64 ((Addr.add (a_1.add 13) (i.toNat * 4)).add 1) w.drew fun x36_1 =>
    LdI .i64 ((Addr.add (a_1.add 13) (i.toNat * 4)).add 2) w.drew fun x36_2 =>
    LdS ((Addr.add (a_1.add 13) (i.toNat * 4)).add 3) w.drew fun x36_3 =>
    Pn x29_b fun a_2 =>
    (0 ≤ i ∧ i < ((x29_l : Nat) : Int)) ∧
    Sts [.int .i64 x36_0, .int .i64 x36_1, .int .i64 x36_2, .string x36_3] (Addr.add a_2 (i.toNat * 4)) 0 w.drew fun w1 =>
    N1 n msgs_b msgs_l msgs_c t4 d (IntKind.i64.wrap (i + (1 : Int))) w1) (
    Bm (decide (((msgs_l : Nat) : Int) > (0 : Int))) (
      Make 91 (.agg #[.int .i64 (0 : Int), .string (ByteArray.mk #[])]) 2 24 ((msgs_l : Nat) : Int) ((msgs_l : Nat) : Int) w fun b43 w2 =>
      Sts [.slice (some ⟨b43, 0, none⟩) (((msgs_l : Nat) : Int).toNat) (((msgs_l : Nat) : Int).toNat)] ⟨d, 1, none⟩ 0 w2 fun w3 =>
      sL2 n msgs_b msgs_l msgs_c t4 d (0 : Int) w3) (
      LdI .i64 ⟨d, 0, none⟩ w fun x71_0 =>
      LdL ⟨d, 1, none⟩ w fun x71_1_b x71_1_l x71_1_c =>
      LdL ⟨d, 2, none⟩ w fun x71_2_b x71_2_l x71_2_c =>
      Sts [.int .i64 x71_0, .slice x71_1_b x71_1_l x71_1_c, .slice x71_2_b x71_2_l x71_2_c] ⟨t4, 0, none⟩ 0 w fun w4 =>
      LdI .i64 ⟨t4, 0, none⟩ w4 fun r_0 =>
      LdL ⟨t4, 1, none⟩ w4 fun r_1_b r_1_l r_1_c =>
      LdL ⟨t4, 2, none⟩ w4 fun r_2_b r_2_l r_2_c =>
      R r_0 r_1_b r_1_l r_1_c r_2_b r_2_l r_2_c w4))) = kstep Tryz.prog 72 Tryz.f147.results.toList (Tryz.f147.body.getD .skip) (node_Node_did.RV R) (kvc Tryz.prog 72 Tryz.f147.results.toList (Tryz.f147.body.getD .skip) (node_Node_did.RV R) [([(0, [1, 1, 0, 1, 0, 1, 1, 0, 0]), (2, [1, 1, 0, 1, 0, 1, 1, 0, 0]), (1, [0]), (0, [1, 1, 1])], fun σ w => dP (slotOf σ 0) fun n_ => dL (slotOf σ 1) fun msgs_b_ msgs_l_ msgs_c_ => dK (slotOf σ 4) fun t4_ => dK (slotOf σ 5) fun d_ => dI .i64 (slotOf σ 6) fun i_ => N1 n_ msgs_b_ msgs_l_ msgs_c_ t4_ d_ i_ w),
    ([(0, [1, 1, 1, 0, 1, 0, 1, 1, 0, 0]), (2, [1, 1, 1, 0, 1, 0, 1, 1, 0, 0]), (1, [2]), (0, [1, 1, 1, 1])], fun σ w => dP (slotOf σ 0) fun n_ => dL (slotOf σ 1) fun msgs_b_ msgs_l_ msgs_c_ => dK (slotOf σ 4) fun t4_ => dK (slotOf σ 5) fun d_ => dI .i64 (slotOf σ 7) fun i_ => sL2 n_ msgs_b_ msgs_l_ msgs_c_ t4_ d_ i_ w)] 2000) [(0, [1, 1, 0, 1, 0, 1, 1, 0, 0]), (2, [1, 1, 0, 1, 0, 1, 1, 0, 0]), (1, [0]), (0, [1, 1, 1])] [(0, .pointer n), (1, .slice msgs_b msgs_l msgs_c), (4, .pointer (some ⟨t4, 0, none⟩)), (5, .pointer (some ⟨d, 0, none⟩)), (6, .int .i64 i)] w := by kernel_rfl
theorem node_Node_did.L1b_sound {R : Int → Option Addr → Nat → Nat → Option Addr → Nat → Nat → World → Prop} {N1 : Option Addr → Option Addr → Nat → Nat → Nat → Nat → Int → World → Prop} (hN1 : ∀ n msgs_b msgs_l msgs_c t4 d i w, N1 n msgs_b msgs_l msgs_c t4 d i w → KW Tryz.prog 147 72 (node_Node_did.RV R) ([(0, [1, 1, 0, 1, 0, 1, 1, 0, 0]), (2, [1, 1, 0, 1, 0, 1, 1, 0, 0]), (1, [0]), (0, [1, 1, 1])].map (toItem (Tryz.f147.body.getD .skip))) [(0, .pointer n), (1, .slice msgs_b msgs_l msgs_c), (4, .pointer (some ⟨t4, 0, none⟩)), (5, .pointer (some ⟨d, 0, none⟩)), (6, .int .i64 i)] w) (n msgs_b : Option Addr) (msgs_l msgs_c t4 d : Nat) (i : Int) (w : World) (h : node_Node_did.L1b n msgs_b msgs_l msgs_c t4 d i w  N1 R) :
    KW Tryz.prog 147 72 (node_Node_did.RV R) ([(0, [1, 1, 0, 1, 0, 1, 1, 0, 0]), (2, [1, 1, 0, 1, 0, 1, 1, 0, 0]), (1, [0]), (0, [1, 1, 1])].map (toItem (Tryz.f147.body.getD .skip))) [(0, .pointer n), (1, .slice msgs_b msgs_l msgs_c), (4, .pointer (some ⟨t4, 0, none⟩)), (5, .pointer (some ⟨d, 0, none⟩)), (6, .int .i64 i)] w := by
  exact block_spec Tryz.func147 Tryz.mixed (stops_cons (fun σ w h => by
      obtain ⟨n_, e0, h⟩ := dP_elim h
      obtain ⟨msgs_b_, msgs_l_, msgs_c_, e1, h⟩ := dL_elim h
      obtain ⟨t4_, e2, h⟩ := dK_elim h
      obtain ⟨d_, e3, h⟩ := dK_elim h
      obtain ⟨i_, e4, h⟩ := dI_elim h
      exact (hN1 n_ msgs_b_ msgs_l_ msgs_c_ t4_ d_ i_ w h).weaken (Sub.cons (Sub.cons (Sub.cons (Sub.cons (Sub.cons (Sub.nil _) e4) e3) e2) e1) e0)) (stops_cons (fun σ w h => by
      obtain ⟨n_, e0, h⟩ := dP_elim h
      obtain ⟨msgs_b_, msgs_l_, msgs_c_, e1, h⟩ := dL_elim h
      obtain ⟨t4_, e2, h⟩ := dK_elim h
      obtain ⟨d_, e3, h⟩ := dK_elim h
      obtain ⟨i_, e4, h⟩ := dI_elim h
      exact (node_Node_did.L2_sound  n_ msgs_b_ msgs_l_ msgs_c_ t4_ d_ i_ w h).weaken (Sub.cons (Sub.cons (Sub.cons (Sub.cons (Sub.cons (Sub.nil _) e4) e3) e2) e1) e0)) stops_nil)) (Eq.mp (node_Node_did.L1b_eq n msgs_b msgs_l msgs_c t4 d i w  N1 R (fun n_ msgs_b_ msgs_l_ msgs_c_ t4_ d_ i_ w => node_Node_did.L2 n_ msgs_b_ msgs_l_ msgs_c_ t4_ d_ i_ w  R)) h)
def node_Node_did.L1 (n msgs_b : Option Addr) (msgs_l msgs_c t4 d : Nat) (i : Int) (w : World)  (R : Int → Option Addr → Nat → Nat → Option Addr → Nat → Nat → World → Prop) : Prop :=
  ∃ (I : Nat → Option Addr → Option Addr → Nat → Nat → Nat → Nat → Int → World → Prop) (m : Nat), I m n msgs_b msgs_l msgs_c t4 d i w ∧ ∀ m n msgs_b msgs_l msgs_c t4 d i w, I m n msgs_b msgs_l msgs_c t4 d i w → node_Node_did.L1b n msgs_b msgs_l msgs_c t4 d i w  (fun n' msgs_b' msgs_l' msgs_c' t4' d' i' w' => ∃ m', m' < m ∧ I m' n' msgs_b' msgs_l' msgs_c' t4' d' i' w') R
theorem node_Node_did.L1_sound {R : Int → Option Addr → Nat → Nat → Option Addr → Nat → Nat → World → Prop}  (n msgs_b : Option Addr) (msgs_l msgs_c t4 d : Nat) (i : Int) (w : World) (h : node_Node_did.L1 n msgs_b msgs_l msgs_c t4 d i w  R) :
    KW Tryz.prog 147 72 (node_Node_did.RV R) ([(0, [1, 1, 0, 1, 0, 1, 1, 0, 0]), (2, [1, 1, 0, 1, 0, 1, 1, 0, 0]), (1, [0]), (0, [1, 1, 1])].map (toItem (Tryz.f147.body.getD .skip))) [(0, .pointer n), (1, .slice msgs_b msgs_l msgs_c), (4, .pointer (some ⟨t4, 0, none⟩)), (5, .pointer (some ⟨d, 0, none⟩)), (6, .int .i64 i)] w := by
  obtain ⟨I, m, hBase, hr⟩ := h
  refine KW.loop (fun m σ w => ∃ (n msgs_b : Option Addr) (msgs_l msgs_c t4 d : Nat) (i : Int), σ = [(0, .pointer n), (1, .slice msgs_b msgs_l msgs_c), (4, .pointer (some ⟨t4, 0, none⟩)), (5, .pointer (some ⟨d, 0, none⟩)), (6, .int .i64 i)] ∧ I m n msgs_b msgs_l msgs_c t4 d i w) ?_ m _ w ⟨n, msgs_b, msgs_l, msgs_c, t4, d, i, rfl, hBase⟩
  rintro m ih σ w ⟨n, msgs_b, msgs_l, msgs_c, t4, d, i, rfl, hI⟩
  exact node_Node_did.L1b_sound  (N1 := fun n' msgs_b' msgs_l' msgs_c' t4' d' i' w' => ∃ m', m' < m ∧ I m' n' msgs_b' msgs_l' msgs_c' t4' d' i' w') (fun n' msgs_b' msgs_l' msgs_c' t4' d' i' w' hx => by obtain ⟨m', hlt, hI'⟩ := hx; exact ih m' hlt _ w' ⟨n', msgs_b', msgs_l', msgs_c', t4', d', i', rfl, hI'⟩) n msgs_b msgs_l msgs_c t4 d i w (hr m n msgs_b msgs_l msgs_c t4 d i w hI)
def node_Node_did.B0 (n msgs_b : Option Addr) (msgs_l msgs_c : Nat) (w : World)   (R : Int → Option Addr → Nat → Nat → Option Addr → Nat → Nat → World → Prop) : Prop :=
  New (.cells #[.int .i64 (0 : Int), .slice none 0 0, .slice none 0 0] 42) w fun b4 w1 =>
  New (.cells #[.int .i64 (0 : Int), .slice none 0 0, .slice none 0 0] 42) w1 fun d_ w2 =>
  Pn n fun a =>
  LdI .i64 (a.add 25) w2 fun x12 =>
  Bm (decide (x12 > (0 : Int))) (
    Pn n fun a_1 =>
    LdI .i64 (a_1.add 25) w2 fun x17 =>
    Make 95 (.agg #[.int .i64 (0 : Int), .int .i64 (0 : Int), .int .i64 (0 : Int), .string (ByteArray.mk #[])]) 4 40 x17 x17 w2 fun b18 w3 =>
    Sts [.slice (some ⟨b18, 0, none⟩) x17.toNat x17.toNat] ⟨d_, 2, none⟩ 0 w3 fun w4 =>
    node_Node_did.L1 n msgs_b msgs_l msgs_c b4 d_ (0 : Int) w4  R) (
    Bm (decide (((msgs_l : Nat) : Int) > (0 : Int))) (
      Make 91 (.agg #[.int .i64 (0 : Int), .string (ByteArray.mk #[])]) 2 24 ((msgs_l : Nat) : Int) ((msgs_l : Nat) : Int) w2 fun b43 w5 =>
      Sts [.slice (some ⟨b43, 0, none⟩) (((msgs_l : Nat) : Int).toNat) (((msgs_l : Nat) : Int).toNat)] ⟨d_, 1, none⟩ 0 w5 fun w6 =>
      node_Node_did.L2 n msgs_b msgs_l msgs_c b4 d_ (0 : Int) w6  R) (
      LdI .i64 ⟨d_, 0, none⟩ w2 fun x71_0 =>
      LdL ⟨d_, 1, none⟩ w2 fun x71_1_b x71_1_l x71_1_c =>
      LdL ⟨d_, 2, none⟩ w2 fun x71_2_b x71_2_l x71_2_c =>
      Sts [.int .i64 x71_0, .slice x71_1_b x71_1_l x71_1_c, .slice x71_2_b x71_2_l x71_2_c] ⟨b4, 0, none⟩ 0 w2 fun w7 =>
      LdI .i64 ⟨b4, 0, none⟩ w7 fun r_0 =>
      LdL ⟨b4, 1, none⟩ w7 fun r_1_b r_1_l r_1_c =>
      LdL ⟨b4, 2, none⟩ w7 fun r_2_b r_2_l r_2_c =>
      R r_0 r_1_b r_1_l r_1_c r_2_b r_2_l r_2_c w7))
theorem node_Node_did.B0_eq (n msgs_b : Option Addr) (msgs_l msgs_c : Nat) (w : World)   (R : Int → Option Addr → Nat → Nat → Option Addr → Nat → Nat → World → Prop) (sL1 : Option Addr → Option Addr → Nat → Nat → Nat → Nat → Int → World → Prop) (sL2 : Option Addr → Option Addr → Nat → Nat → Nat → Nat → Int → World → Prop) :
    (
  New (.cells #[.int .i64 (0 : Int), .slice none 0 0, .slice none 0 0] 42) w fun b4 w1 =>
  New (.cells #[.int .i64 (0 : Int), .slice none 0 0, .slice none 0 0] 42) w1 fun d_ w2 =>
  Pn n fun a =>
  LdI .i64 (a.add 25) w2 fun x12 =>
  Bm (decide (x12 > (0 : Int))) (
    Pn n fun a_1 =>
    LdI .i64 (a_1.add 25) w2 fun x17 =>
    Make 95 (.agg #[.int .i64 (0 : Int), .int .i64 (0 : Int), .int .i64 (0 : Int), .string (ByteArray.mk #[])]) 4 40 x17 x17 w2 fun b18 w3 =>
    Sts [.slice (some ⟨b18, 0, none⟩) x17.toNat x17.toNat] ⟨d_, 2, none⟩ 0 w3 fun w4 =>
    sL1 n msgs_b msgs_l msgs_c b4 d_ (0 : Int) w4) (
    Bm (decide (((msgs_l : Nat) : Int) > (0 : Int))) (
      Make 91 (.agg #[.int .i64 (0 : Int), .string (ByteArray.mk #[])]) 2 24 ((msgs_l : Nat) : Int) ((msgs_l : Nat) : Int) w2 fun b43 w5 =>
      Sts [.slice (some ⟨b43, 0, none⟩) (((msgs_l : Nat) : Int).toNat) (((msgs_l : Nat) : Int).toNat)] ⟨d_, 1, none⟩ 0 w5 fun w6 =>
      sL2 n msgs_b msgs_l msgs_c b4 d_ (0 : Int) w6) (
      LdI .i64 ⟨d_, 0, none⟩ w2 fun x71_0 =>
      LdL ⟨d_, 1, none⟩ w2 fun x71_1_b x71_1_l x71_1_c =>
      LdL ⟨d_, 2, none⟩ w2 fun x71_2_b x71_2_l x71_2_c =>
      Sts [.int .i64 x71_0, .slice x71_1_b x71_1_l x71_1_c, .slice x71_2_b x71_2_l x71_2_c] ⟨b4, 0, none⟩ 0 w2 fun w7 =>
      LdI .i64 ⟨b4, 0, none⟩ w7 fun r_0 =>
      LdL ⟨b4, 1, none⟩ w7 fun r_1_b r_1_l r_1_c =>
      LdL ⟨b4, 2, none⟩ w7 fun r_2_b r_2_l r_2_c =>
      R r_0 r_1_b r_1_l r_1_c r_2_b r_2_l r_2_c w7))) = kstep Tryz.prog 72 Tryz.f147.results.toList (Tryz.f147.body.getD .skip) (node_Node_did.RV R) (kvc Tryz.prog 72 Tryz.f147.results.toList (Tryz.f147.body.getD .skip) (node_Node_did.RV R) [([(0, [1, 1, 0, 1, 0, 1, 1, 0, 0]), (2, [1, 1, 0, 1, 0, 1, 1, 0, 0]), (1, [0]), (0, [1, 1, 1])], fun σ w => dP (slotOf σ 0) fun n_ => dL (slotOf σ 1) fun msgs_b_ msgs_l_ msgs_c_ => dK (slotOf σ 4) fun t4_ => dK (slotOf σ 5) fun d_ => dI .i64 (slotOf σ 6) fun i_ => sL1 n_ msgs_b_ msgs_l_ msgs_c_ t4_ d_ i_ w),
    ([(0, [1, 1, 1, 0, 1, 0, 1, 1, 0, 0]), (2, [1, 1, 1, 0, 1, 0, 1, 1, 0, 0]), (1, [2]), (0, [1, 1, 1, 1])], fun σ w => dP (slotOf σ 0) fun n_ => dL (slotOf σ 1) fun msgs_b_ msgs_l_ msgs_c_ => dK (slotOf σ 4) fun t4_ => dK (slotOf σ 5) fun d_ => dI .i64 (slotOf σ 7) fun i_ => sL2 n_ msgs_b_ msgs_l_ msgs_c_ t4_ d_ i_ w)] 2000) [(0, [])] [(0, .pointer n), (1, .slice msgs_b msgs_l msgs_c)] w := by kernel_rfl
theorem node_Node_did.B0_sound {R : Int → Option Addr → Nat → Nat → Option Addr → Nat → Nat → World → Prop}  (n msgs_b : Option Addr) (msgs_l msgs_c : Nat) (w : World) (h : node_Node_did.B0 n msgs_b msgs_l msgs_c w   R) :
    KW Tryz.prog 147 72 (node_Node_did.RV R) ([(0, [])].map (toItem (Tryz.f147.body.getD .skip))) [(0, .pointer n), (1, .slice msgs_b msgs_l msgs_c)] w := by
  exact block_spec Tryz.func147 Tryz.mixed (stops_cons (fun σ w h => by
      obtain ⟨n_, e0, h⟩ := dP_elim h
      obtain ⟨msgs_b_, msgs_l_, msgs_c_, e1, h⟩ := dL_elim h
      obtain ⟨t4_, e2, h⟩ := dK_elim h
      obtain ⟨d_, e3, h⟩ := dK_elim h
      obtain ⟨i_, e4, h⟩ := dI_elim h
      exact (node_Node_did.L1_sound  n_ msgs_b_ msgs_l_ msgs_c_ t4_ d_ i_ w h).weaken (Sub.cons (Sub.cons (Sub.cons (Sub.cons (Sub.cons (Sub.nil _) e4) e3) e2) e1) e0)) (stops_cons (fun σ w h => by
      obtain ⟨n_, e0, h⟩ := dP_elim h
      obtain ⟨msgs_b_, msgs_l_, msgs_c_, e1, h⟩ := dL_elim h
      obtain ⟨t4_, e2, h⟩ := dK_elim h
      obtain ⟨d_, e3, h⟩ := dK_elim h
      obtain ⟨i_, e4, h⟩ := dI_elim h
      exact (node_Node_did.L2_sound  n_ msgs_b_ msgs_l_ msgs_c_ t4_ d_ i_ w h).weaken (Sub.cons (Sub.cons (Sub.cons (Sub.cons (Sub.cons (Sub.nil _) e4) e3) e2) e1) e0)) stops_nil)) (Eq.mp (node_Node_did.B0_eq n msgs_b msgs_l msgs_c w   R (fun n_ msgs_b_ msgs_l_ msgs_c_ t4_ d_ i_ w => node_Node_did.L1 n_ msgs_b_ msgs_l_ msgs_c_ t4_ d_ i_ w  R) (fun n_ msgs_b_ msgs_l_ msgs_c_ t4_ d_ i_ w => node_Node_did.L2 n_ msgs_b_ msgs_l_ msgs_c_ t4_ d_ i_ w  R)) h)
theorem node_Node_did.sound (n msgs_b : Option Addr) (msgs_l msgs_c : Nat) (w : World) (R : Int → Option Addr → Nat → Nat → Option Addr → Nat → Nat → World → Prop) (h : node_Node_did.B0 n msgs_b msgs_l msgs_c w R) : node_Node_did.Call n msgs_b msgs_l msgs_c w R := by
  have hc := calls_of_block (args := #[.pointer n, .slice msgs_b msgs_l msgs_c]) Tryz.func147 (body := (Tryz.f147.body.getD .skip)) (by kernel_rfl) (by kernel_rfl) (args_slot _) (node_Node_did.B0_sound n msgs_b msgs_l msgs_c w h)
  exact hc.mono fun e w' he => by
    obtain ⟨v, rfl, hv⟩ := he
    exact node_Node_did.RV_elim hv
end Go.Proofs.Qxb6500430aGreat
