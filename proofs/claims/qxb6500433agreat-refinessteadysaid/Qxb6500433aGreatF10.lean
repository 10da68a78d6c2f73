import Derived.Test.Qxb6500433aGreatSig
set_option maxRecDepth 100000
set_option linter.unusedVariables false
open Go.Vc
namespace Go.Proofs.Qxb6500433aGreat
def sync_Sync_voteAsked.B1 (s : Option Addr) (m0 : Nat) (up : Bool) (w : World)   (R : World → Prop) : Prop :=
  Pn s fun a =>
  LdP (a.add 1) w.drew fun x34 =>
  LdI .i64 ⟨m0, 1, none⟩ w.drew fun x36 =>
  LdI .i64 ⟨m0, 3, none⟩ w.drew fun x38 =>
  elect_Elect_AskedVote.Call x34 x36 x38 up w.drew fun r40 w1 =>
  sync_Sync_persist.Call s w1 fun w2 =>
  LdI .i64 ⟨m0, 1, none⟩ w2 fun x45 =>
  sync_Sync_reply.Call s (2 : Int) x45 r40 (0 : Int) w2 fun w3 =>
  R  w3
theorem sync_Sync_voteAsked.B1_eq (s : Option Addr) (m0 : Nat) (up : Bool) (w : World)   (R : World → Prop)  :
    (
  Pn s fun a =>
  LdP (a.add 1) w.drew fun x34 =>
  LdI .i64 ⟨m0, 1, none⟩ w.drew fun x36 =>
  LdI .i64 ⟨m0, 3, none⟩ w.drew fun x38 =>
  elect_Elect_AskedVote.Call x34 x36 x38 up w.drew fun r40 w1 =>
  sync_Sync_persist.Call s w1 fun w2 =>
  LdI .i64 ⟨m0, 1, none⟩ w2 fun x45 =>
  sync_Sync_reply.Call s (2 : Int) x45 r40 (0 : Int) w2 fun w3 =>
  R  w3) = kstep Tryz.prog 48 Tryz.f115.results.toList (Tryz.f115.body.getD .skip) (sync_Sync_voteAsked.RV R) (kvc Tryz.prog 48 Tryz.f115.results.toList (Tryz.f115.body.getD .skip) (sync_Sync_voteAsked.RV R) [] 2000) [(0, [1, 1])] [(0, .pointer s), (3, .pointer (some ⟨m0, 0, none⟩)), (4, .bool up)] w := by kernel_rfl
theorem sync_Sync_voteAsked.B1_sound {R : World → Prop}  (s : Option Addr) (m0 : Nat) (up : Bool) (w : World) (h : sync_Sync_voteAsked.B1 s m0 up w   R) :
    KW Tryz.prog 115 48 (sync_Sync_voteAsked.RV R) ([(0, [1, 1])].map (toItem (Tryz.f115.body.getD .skip))) [(0, .pointer s), (3, .pointer (some ⟨m0, 0, none⟩)), (4, .bool up)] w := by
  exact block_spec Tryz.func115 Tryz.mixed stops_nil (Eq.mp (sync_Sync_voteAsked.B1_eq s m0 up w   R ) h)
def sync_Sync_voteAsked.B0 (s : Option Addr) (m0_0 m0_1 m0_2 m0_3 m0_4 m0_5 m0_6 : Int) (m0_7 : Bool) (m0_8_b : Option Addr) (m0_8_l m0_8_c : Nat) (m0_9 : ByteArray) (w : World)   (R : World → Prop) : Prop :=
  New (.cells #[.int .i64 m0_0, .int .i64 m0_1, .int .i64 m0_2, .int .i64 m0_3, .int .i64 m0_4, .int .i64 m0_5, .int .i64 m0_6, .bool m0_7, .slice m0_8_b m0_8_l m0_8_c, .string m0_9] 40) w fun m0_ w1 =>
  LdI .i64 ⟨m0_, 5, none⟩ w1.drew fun x7 =>
  Pn s fun a =>
  LdI .i64 (a.add 10) w1.drew fun x11 =>
  Bm (decide (x7 > x11)) (
    sync_Sync_voteAsked.B1 s m0_ true w1.drew  R) (
    LdI .i64 ⟨m0_, 5, none⟩ w1.drew fun x15 =>
    Pn s fun a_1 =>
    LdI .i64 (a_1.add 10) w1.drew fun x19 =>
    Bm (x15 == x19) (
      LdI .i64 ⟨m0_, 4, none⟩ w1.drew fun x23 =>
      Pn s fun a_2 =>
      LdI .i64 (a_2.add 9) w1.drew fun x27 =>
      sync_Sync_voteAsked.B1 s m0_ (decide (x23 ≥ x27)) w1.drew  R) (
      sync_Sync_voteAsked.B1 s m0_ false w1.drew  R))
theorem sync_Sync_voteAsked.B0_eq (s : Option Addr) (m0_0 m0_1 m0_2 m0_3 m0_4 m0_5 m0_6 : Int) (m0_7 : Bool) (m0_8_b : Option Addr) (m0_8_l m0_8_c : Nat) (m0_9 : ByteArray) (w : World)   (R : World → Prop) (sB1 : Option Addr → Nat → Bool → World → Prop) :
    (
  New (.cells #[.int .i64 m0_0, .int .i64 m0_1, .int .i64 m0_2, .int .i64 m0_3, .int .i64 m0_4, .int .i64 m0_5, .int .i64 m0_6, .bool m0_7, .slice m0_8_b m0_8_l m0_8_c, .string m0_9] 40) w fun m0_ w1 =>
  LdI .i64 ⟨m0_, 5, none⟩ w1.drew fun x7 =>
  Pn s fun a =>
  LdI .i64 (a.add 10) w1.drew fun x11 =>
  Bm (decide (x7 > x11)) (
    sB1 s m0_ true w1.drew) (
    LdI .i64 ⟨m0_, 5, none⟩ w1.drew fun x15 =>
    Pn s fun a_1 =>
    LdI .i64 (a_1.add 10) w1.drew fun x19 =>
    Bm (x15 == x19) (
      LdI .i64 ⟨m0_, 4, none⟩ w1.drew fun x23 =>
      Pn s fun a_2 =>
      LdI .i64 (a_2.add 9) w1.drew fun x27 =>
      sB1 s m0_ (decide (x23 ≥ x27)) w1.drew) (
      sB1 s m0_ false w1.drew))) = kstep Tryz.prog 48 Tryz.f115.results.toList (Tryz.f115.body.getD .skip) (sync_Sync_voteAsked.RV R) (kvc Tryz.prog 48 Tryz.f115.results.toList (Tryz.f115.body.getD .skip) (sync_Sync_voteAsked.RV R) [([(0, [1, 1])], fun σ w => dP (slotOf σ 0) fun s_ => dK (slotOf σ 3) fun m0_ => dB (slotOf σ 4) fun up_ => sB1 s_ m0_ up_ w)] 2000) [(0, [])] [(0, .pointer s), (1, .agg #[.int .i64 m0_0, .int .i64 m0_1, .int .i64 m0_2, .int .i64 m0_3, .int .i64 m0_4, .int .i64 m0_5, .int .i64 m0_6, .bool m0_7, .slice m0_8_b m0_8_l m0_8_c, .string m0_9])] w := by kernel_rfl
theorem sync_Sync_voteAsked.B0_sound {R : World → Prop}  (s : Option Addr) (m0_0 m0_1 m0_2 m0_3 m0_4 m0_5 m0_6 : Int) (m0_7 : Bool) (m0_8_b : Option Addr) (m0_8_l m0_8_c : Nat) (m0_9 : ByteArray) (w : World) (h : sync_Sync_voteAsked.B0 s m0_0 m0_1 m0_2 m0_3 m0_4 m0_5 m0_6 m0_7 m0_8_b m0_8_l m0_8_c m0_9 w   R) :
    KW Tryz.prog 115 48 (sync_Sync_voteAsked.RV R) ([(0, [])].map (toItem (Tryz.f115.body.getD .skip))) [(0, .pointer s), (1, .agg #[.int .i64 m0_0, .int .i64 m0_1, .int .i64 m0_2, .int .i64 m0_3, .int .i64 m0_4, .int .i64 m0_5, .int .i64 m0_6, .bool m0_7, .slice m0_8_b m0_8_l m0_8_c, .string m0_9])] w := by
  exact block_spec Tryz.func115 Tryz.mixed (stops_cons (fun σ w h => by
      obtain ⟨s_, e0, h⟩ := dP_elim h
      obtain ⟨m0_, e1, h⟩ := dK_elim h
      obtain ⟨up_, e2, h⟩ := dB_elim h
      exact (sync_Sync_voteAsked.B1_sound  s_ m0_ up_ w h).weaken (Sub.cons (Sub.cons (Sub.cons (Sub.nil _) e2) e1) e0)) stops_nil) (Eq.mp (sync_Sync_voteAsked.B0_eq s m0_0 m0_1 m0_2 m0_3 m0_4 m0_5 m0_6 m0_7 m0_8_b m0_8_l m0_8_c m0_9 w   R (fun s_ m0_ up_ w => sync_Sync_voteAsked.B1 s_ m0_ up_ w  R)) h)
theorem sync_Sync_voteAsked.sound (s : Option Addr) (m0_0 m0_1 m0_2 m0_3 m0_4 m0_5 m0_6 : Int) (m0_7 : Bool) (m0_8_b : Option Addr) (m0_8_l m0_8_c : Nat) (m0_9 : ByteArray) (w : World) (R : World → Prop) (h : sync_Sync_voteAsked.B0 s m0_0 m0_1 m0_2 m0_3 m0_4 m0_5 m0_6 m0_7 m0_8_b m0_8_l m0_8_c m0_9 w R) : sync_Sync_voteAsked.Call s m0_0 m0_1 m0_2 m0_3 m0_4 m0_5 m0_6 m0_7 m0_8_b m0_8_l m0_8_c m0_9 w R := by
  have hc := calls_of_block (args := #[.pointer s, .agg #[.int .i64 m0_0, .int .i64 m0_1, .int .i64 m0_2, .int .i64 m0_3, .int .i64 m0_4, .int .i64 m0_5, .int .i64 m0_6, .bool m0_7, .slice m0_8_b m0_8_l m0_8_c, .string m0_9]]) Tryz.func115 (body := (Tryz.f115.body.getD .skip)) (by kernel_rfl) (by kernel_rfl) (args_slot _) (sync_Sync_voteAsked.B0_sound s m0_0 m0_1 m0_2 m0_3 m0_4 m0_5 m0_6 m0_7 m0_8_b m0_8_l m0_8_c m0_9 w h)
  exact hc.mono fun e w' he => by
    obtain ⟨v, rfl, hv⟩ := he
    exact sync_Sync_voteAsked.RV_elim hv
def sync_Sync_voteCame.L1b (s : Option Addr) (q : Int) (w : World)  (N1 : Option Addr → Int → World → Prop) (R : World → Prop) : Prop :=
  Bm (decide (q < (3 : Int))) (
    Pn s fun a =>
    LdI .i64 (a.add 9) w.drew fun x31 =>
    Pn s fun a_1 =>
    (0 ≤ q ∧ q < ((3 : Nat) : Int)) ∧
    Sts [.int .i64 (IntKind.i64.wrap (x31 + (1 : Int)))] (Addr.add (a_1.add 3) (q.toNat * 1)) 0 w.drew fun w1 =>
    Pn s fun a_2 =>
    (0 ≤ q ∧ q < ((3 : Nat) : Int)) ∧
    Sts [.int .i64 (0 : Int)] (Addr.add (a_2.add 6) (q.toNat * 1)) 0 w1 fun w2 =>
    N1 s (IntKind.i64.wrap (q + (1 : Int))) w2) (
    Pn s fun a_3 =>
    LdP (a_3.add 1) w fun x44 =>
    elect_Elect_Term.Call x44 w fun r45 w3 =>
    sync_Sync_grow.Call s r45 (ByteArray.mk #[]) w3 fun r49 w4 =>
    sync_Sync_sendAll.Call s w4 fun w5 =>
    R  w5)
theorem sync_Sync_voteCame.L1b_eq (s : Option Addr) (q : Int) (w : World)  (N1 : Option Addr → Int → World → Prop) (R : World → Prop)  :
    (
  Bm (decide (q < (3 : Int))) (
    Pn s fun a =>
    LdI .i64 (a.add 9) w.drew fun x31 =>
    Pn s fun a_1 =>
    (0 ≤ q ∧ q < ((3 : Nat) : Int)) ∧
    Sts [.int .i64 (IntKind.i64.wrap (x31 + (1 : Int)))] (Addr.add (a_1.add 3) (q.toNat * 1)) 0 w.drew fun w1 =>
    Pn s fun a_2 =>
    (0 ≤ q ∧ q < ((3 : Nat) : Int)) ∧
    Sts [.int .i64 (0 : Int)] (Addr.add (a_2.add 6) (q.toNat * 1)) 0 w1 fun w2 =>
    N1 s (IntKind.i64.wrap (q + (1 : Int))) w2) (
    Pn s fun a_3 =>
    LdP (a_3.add 1) w fun x44 =>
    elect_Elect_Term.Call x44 w fun r45 w3 =>
    sync_Sync_grow.Call s r45 (ByteArray.mk #[]) w3 fun r49 w4 =>
    sync_Sync_sendAll.Call s w4 fun w5 =>
    R  w5)) = kstep Tryz.prog 52 Tryz.f116.results.toList (Tryz.f116.body.getD .skip) (sync_Sync_voteCame.RV R) (kvc Tryz.prog 52 Tryz.f116.results.toList (Tryz.f116.body.getD .skip) (sync_Sync_voteCame.RV R) [([(0, [1, 1, 1, 1, 0, 1, 0, 0]), (2, [1, 1, 1, 1, 0, 1, 0, 0]), (1, [0]), (0, [1, 1, 1, 1, 1])], fun σ w => dP (slotOf σ 0) fun s_ => dI .i64 (slotOf σ 5) fun q_ => N1 s_ q_ w)] 2000) [(0, [1, 1, 1, 1, 0, 1, 0, 0]), (2, [1, 1, 1, 1, 0, 1, 0, 0]), (1, [0]), (0, [1, 1, 1, 1, 1])] [(0, .pointer s), (5, .int .i64 q)] w := by kernel_rfl
theorem sync_Sync_voteCame.L1b_sound {R : World → Prop} {N1 : Option Addr → Int → World → Prop} (hN1 : ∀ s q w, N1 s q w → KW Tryz.prog 116 52 (sync_Sync_voteCame.RV R) ([(0, [1, 1, 1, 1, 0, 1, 0, 0]), (2, [1, 1, 1, 1, 0, 1, 0, 0]), (1, [0]), (0, [1, 1, 1, 1, 1])].map (toItem (Tryz.f116.body.getD .skip))) [(0, .pointer s), (5, .int .i64 q)] w) (s : Option Addr) (q : Int) (w : World) (h : sync_Sync_voteCame.L1b s q w  N1 R) :
    KW Tryz.prog 116 52 (sync_Sync_voteCame.RV R) ([(0, [1, 1, 1, 1, 0, 1, 0, 0]), (2, [1, 1, 1, 1, 0, 1, 0, 0]), (1, [0]), (0, [1, 1, 1, 1, 1])].map (toItem (Tryz.f116.body.getD .skip))) [(0, .pointer s), (5, .int .i64 q)] w := by
  exact block_spec Tryz.func116 Tryz.mixed (stops_cons (fun σ w h => by
      obtain ⟨s_, e0, h⟩ := dP_elim h
      obtain ⟨q_, e1, h⟩ := dI_elim h
      exact (hN1 s_ q_ w h).weaken (Sub.cons (Sub.cons (Sub.nil _) e1) e0)) stops_nil) (Eq.mp (sync_Sync_voteCame.L1b_eq s q w  N1 R ) h)
def sync_Sync_voteCame.L1 (s : Option Addr) (q : Int) (w : World)  (R : World → Prop) : Prop :=
  ∃ (I : Nat → Option Addr → Int → World → Prop) (m : Nat), I m s q w ∧ ∀ m s q w, I m s q w → sync_Sync_voteCame.L1b s q w  (fun s' q' w' => ∃ m', m' < m ∧ I m' s' q' w') R
theorem sync_Sync_voteCame.L1_sound {R : World → Prop}  (s : Option Addr) (q : Int) (w : World) (h : sync_Sync_voteCame.L1 s q w  R) :
    KW Tryz.prog 116 52 (sync_Sync_voteCame.RV R) ([(0, [1, 1, 1, 1, 0, 1, 0, 0]), (2, [1, 1, 1, 1, 0, 1, 0, 0]), (1, [0]), (0, [1, 1, 1, 1, 1])].map (toItem (Tryz.f116.body.getD .skip))) [(0, .pointer s), (5, .int .i64 q)] w := by
  obtain ⟨I, m, hBase, hr⟩ := h
  refine KW.loop (fun m σ w => ∃ (s : Option Addr) (q : Int), σ = [(0, .pointer s), (5, .int .i64 q)] ∧ I m s q w) ?_ m _ w ⟨s, q, rfl, hBase⟩
  rintro m ih σ w ⟨s, q, rfl, hI⟩
  exact sync_Sync_voteCame.L1b_sound  (N1 := fun s' q' w' => ∃ m', m' < m ∧ I m' s' q' w') (fun s' q' w' hx => by obtain ⟨m', hlt, hI'⟩ := hx; exact ih m' hlt _ w' ⟨s', q', rfl, hI'⟩) s q w (hr m s q w hI)
def sync_Sync_voteCame.B0 (s : Option Addr) (m0_0 m0_1 m0_2 m0_3 m0_4 m0_5 m0_6 : Int) (m0_7 : Bool) (m0_8_b : Option Addr) (m0_8_l m0_8_c : Nat) (m0_9 : ByteArray) (w : World)   (R : World → Prop) : Prop :=
  New (.cells #[.int .i64 m0_0, .int .i64 m0_1, .int .i64 m0_2, .int .i64 m0_3, .int .i64 m0_4, .int .i64 m0_5, .int .i64 m0_6, .bool m0_7, .slice m0_8_b m0_8_l m0_8_c, .string m0_9] 40) w fun m0_ w1 =>
  Pn s fun a =>
  LdP (a.add 1) w1.drew fun x10 =>
  LdI .i64 ⟨m0_, 1, none⟩ w1.drew fun x12 =>
  LdI .i64 ⟨m0_, 3, none⟩ w1.drew fun x14 =>
  LdB ⟨m0_, 7, none⟩ w1.drew fun x16 =>
  elect_Elect_GotVote.Call x10 x12 x14 x16 w1.drew fun r17 w2 =>
  sync_Sync_persist.Call s w2 fun w3 =>
  Bm (!r17) (
    R  w3) (
    sync_Sync_voteCame.L1 s (0 : Int) w3  R)
theorem sync_Sync_voteCame.B0_eq (s : Option Addr) (m0_0 m0_1 m0_2 m0_3 m0_4 m0_5 m0_6 : Int) (m0_7 : Bool) (m0_8_b : Option Addr) (m0_8_l m0_8_c : Nat) (m0_9 : ByteArray) (w : World)   (R : World → Prop) (sL1 : Option Addr → Int → World → Prop) :
    (
  New (.cells #[.int .i64 m0_0, .int .i64 m0_1, .int .i64 m0_2, .int .i64 m0_3, .int .i64 m0_4, .int .i64 m0_5, .int .i64 m0_6, .bool m0_7, .slice m0_8_b m0_8_l m0_8_c, .string m0_9] 40) w fun m0_ w1 =>
  Pn s fun a =>
  LdP (a.add 1) w1.drew fun x10 =>
  LdI .i64 ⟨m0_, 1, none⟩ w1.drew fun x12 =>
  LdI .i64 ⟨m0_, 3, none⟩ w1.drew fun x14 =>
  LdB ⟨m0_, 7, none⟩ w1.drew fun x16 =>
  elect_Elect_GotVote.Call x10 x12 x14 x16 w1.drew fun r17 w2 =>
  sync_Sync_persist.Call s w2 fun w3 =>
  Bm (!r17) (
    R  w3) (
    sL1 s (0 : Int) w3)) = kstep Tryz.prog 52 Tryz.f116.results.toList (Tryz.f116.body.getD .skip) (sync_Sync_voteCame.RV R) (kvc Tryz.prog 52 Tryz.f116.results.toList (Tryz.f116.body.getD .skip) (sync_Sync_voteCame.RV R) [([(0, [1, 1, 1, 1, 0, 1, 0, 0]), (2, [1, 1, 1, 1, 0, 1, 0, 0]), (1, [0]), (0, [1, 1, 1, 1, 1])], fun σ w => dP (slotOf σ 0) fun s_ => dI .i64 (slotOf σ 5) fun q_ => sL1 s_ q_ w)] 2000) [(0, [])] [(0, .pointer s), (1, .agg #[.int .i64 m0_0, .int .i64 m0_1, .int .i64 m0_2, .int .i64 m0_3, .int .i64 m0_4, .int .i64 m0_5, .int .i64 m0_6, .bool m0_7, .slice m0_8_b m0_8_l m0_8_c, .string m0_9])] w := by kernel_rfl
theorem sync_Sync_voteCame.B0_sound {R : World → Prop}  (s : Option Addr) (m0_0 m0_1 m0_2 m0_3 m0_4 m0_5 m0_6 : Int) (m0_7 : Bool) (m0_8_b : Option Addr) (m0_8_l m0_8_c : Nat) (m0_9 : ByteArray) (w : World) (h : sync_Sync_voteCame.B0 s m0_0 m0_1 m0_2 m0_3 m0_4 m0_5 m0_6 m0_7 m0_8_b m0_8_l m0_8_c m0_9 w   R) :
    KW Tryz.prog 116 52 (sync_Sync_voteCame.RV R) ([(0, [])].map (toItem (Tryz.f116.body.getD .skip))) [(0, .pointer s), (1, .agg #[.int .i64 m0_0, .int .i64 m0_1, .int .i64 m0_2, .int .i64 m0_3, .int .i64 m0_4, .int .i64 m0_5, .int .i64 m0_6, .bool m0_7, .slice m0_8_b m0_8_l m0_8_c, .string m0_9])] w := by
  exact block_spec Tryz.func116 Tryz.mixed (stops_cons (fun σ w h => by
      obtain ⟨s_, e0, h⟩ := dP_elim h
      obtain ⟨q_, e1, h⟩ := dI_elim h
      exact (sync_Sync_voteCame.L1_sound  s_ q_ w h).weaken (Sub.cons (Sub.cons (Sub.nil _) e1) e0)) stops_nil) (Eq.mp (sync_Sync_voteCame.B0_eq s m0_0 m0_1 m0_2 m0_3 m0_4 m0_5 m0_6 m0_7 m0_8_b m0_8_l m0_8_c m0_9 w   R (fun s_ q_ w => sync_Sync_voteCame.L1 s_ q_ w  R)) h)
theorem sync_Sync_voteCame.sound (s : Option Addr) (m0_0 m0_1 m0_2 m0_3 m0_4 m0_5 m0_6 : Int) (m0_7 : Bool) (m0_8_b : Option Addr) (m0_8_l m0_8_c : Nat) (m0_9 : ByteArray) (w : World) (R : World → Prop) (h : sync_Sync_voteCame.B0 s m0_0 m0_1 m0_2 m0_3 m0_4 m0_5 m0_6 m0_7 m0_8_b m0_8_l m0_8_c m0_9 w R) : sync_Sync_voteCame.Call s m0_0 m0_1 m0_2 m0_3 m0_4 m0_5 m0_6 m0_7 m0_8_b m0_8_l m0_8_c m0_9 w R := by
  have hc := calls_of_block (args := #[.pointer s, .agg #[.int .i64 m0_0, .int .i64 m0_1, .int .i64 m0_2, .int .i64 m0_3, .int .i64 m0_4, .int .i64 m0_5, .int .i64 m0_6, .bool m0_7, .slice m0_8_b m0_8_l m0_8_c, .string m0_9]]) Tryz.func116 (body := (Tryz.f116.body.getD .skip)) (by kernel_rfl) (by kernel_rfl) (args_slot _) (sync_Sync_voteCame.B0_sound s m0_0 m0_1 m0_2 m0_3 m0_4 m0_5 m0_6 m0_7 m0_8_b m0_8_l m0_8_c m0_9 w h)
  exact hc.mono fun e w' he => by
    obtain ⟨v, rfl, hv⟩ := he
    exact sync_Sync_voteCame.RV_elim hv
def sync_Sync_entriesCame.B0 (s : Option Addr) (m0_0 m0_1 m0_2 m0_3 m0_4 m0_5 m0_6 : Int) (m0_7 : Bool) (m0_8_b : Option Addr) (m0_8_l m0_8_c : Nat) (m0_9 : ByteArray) (w : World)   (R : World → Prop) : Prop :=
  New (.cells #[.int .i64 m0_0, .int .i64 m0_1, .int .i64 m0_2, .int .i64 m0_3, .int .i64 m0_4, .int .i64 m0_5, .int .i64 m0_6, .bool m0_7, .slice m0_8_b m0_8_l m0_8_c, .string m0_9] 40) w fun m0_ w1 =>
  Pn s fun a =>
  LdP (a.add 1) w1.drew fun x10 =>
  LdI .i64 ⟨m0_, 1, none⟩ w1.drew fun x12 =>
  LdI .i64 ⟨m0_, 3, none⟩ w1.drew fun x14 =>
  elect_Elect_Heard.Call x10 x12 x14 w1.drew fun r15 w2 =>
  sync_Sync_persist.Call s w2 fun w3 =>
  Bm (!r15) (
    LdI .i64 ⟨m0_, 1, none⟩ w3 fun x22 =>
    sync_Sync_reply.Call s (4 : Int) x22 false (0 : Int) w3 fun w4 =>
    R  w4) (
    LdI .i64 ⟨m0_, 0, none⟩ w3 fun x26_0 =>
    LdI .i64 ⟨m0_, 1, none⟩ w3 fun x26_1 =>
    LdI .i64 ⟨m0_, 2, none⟩ w3 fun x26_2 =>
    LdI .i64 ⟨m0_, 3, none⟩ w3 fun x26_3 =>
    LdI .i64 ⟨m0_, 4, none⟩ w3 fun x26_4 =>
    LdI .i64 ⟨m0_, 5, none⟩ w3 fun x26_5 =>
    LdI .i64 ⟨m0_, 6, none⟩ w3 fun x26_6 =>
    LdB ⟨m0_, 7, none⟩ w3 fun x26_7 =>
    LdL ⟨m0_, 8, none⟩ w3 fun x26_8_b x26_8_l x26_8_c =>
    LdS ⟨m0_, 9, none⟩ w3 fun x26_9 =>
    sync_Sync_accept.Call s x26_0 x26_1 x26_2 x26_3 x26_4 x26_5 x26_6 x26_7 x26_8_b x26_8_l x26_8_c x26_9 w3 fun r27_0 r27_1 w5 =>
    LdI .i64 ⟨m0_, 1, none⟩ w5 fun x32 =>
    sync_Sync_reply.Call s (4 : Int) x32 r27_0 r27_1 w5 fun w6 =>
    R  w6)
theorem sync_Sync_entriesCame.B0_eq (s : Option Addr) (m0_0 m0_1 m0_2 m0_3 m0_4 m0_5 m0_6 : Int) (m0_7 : Bool) (m0_8_b : Option Addr) (m0_8_l m0_8_c : Nat) (m0_9 : ByteArray) (w : World)   (R : World → Prop)  :
    (
  New (.cells #[.int .i64 m0_0, .int .i64 m0_1, .int .i64 m0_2, .int .i64 m0_3, .int .i64 m0_4, .int .i64 m0_5, .int .i64 m0_6, .bool m0_7, .slice m0_8_b m0_8_l m0_8_c, .string m0_9] 40) w fun m0_ w1 =>
  Pn s fun a =>
  LdP (a.add 1) w1.drew fun x10 =>
  LdI .i64 ⟨m0_, 1, none⟩ w1.drew fun x12 =>
  LdI .i64 ⟨m0_, 3, none⟩ w1.drew fun x14 =>
  elect_Elect_Heard.Call x10 x12 x14 w1.drew fun r15 w2 =>
  sync_Sync_persist.Call s w2 fun w3 =>
  Bm (!r15) (
    LdI .i64 ⟨m0_, 1, none⟩ w3 fun x22 =>
    sync_Sync_reply.Call s (4 : Int) x22 false (0 : Int) w3 fun w4 =>
    R  w4) (
    LdI .i64 ⟨m0_, 0, none⟩ w3 fun x26_0 =>
    LdI .i64 ⟨m0_, 1, none⟩ w3 fun x26_1 =>
    LdI .i64 ⟨m0_, 2, none⟩ w3 fun x26_2 =>
    LdI .i64 ⟨m0_, 3, none⟩ w3 fun x26_3 =>
    LdI .i64 ⟨m0_, 4, none⟩ w3 fun x26_4 =>
    LdI .i64 ⟨m0_, 5, none⟩ w3 fun x26_5 =>
    LdI .i64 ⟨m0_, 6, none⟩ w3 fun x26_6 =>
    LdB ⟨m0_, 7, none⟩ w3 fun x26_7 =>
    LdL ⟨m0_, 8, none⟩ w3 fun x26_8_b x26_8_l x26_8_c =>
    LdS ⟨m0_, 9, none⟩ w3 fun x26_9 =>
    sync_Sync_accept.Call s x26_0 x26_1 x26_2 x26_3 x26_4 x26_5 x26_6 x26_7 x26_8_b x26_8_l x26_8_c x26_9 w3 fun r27_0 r27_1 w5 =>
    LdI .i64 ⟨m0_, 1, none⟩ w5 fun x32 =>
    sync_Sync_reply.Call s (4 : Int) x32 r27_0 r27_1 w5 fun w6 =>
    R  w6)) = kstep Tryz.prog 36 Tryz.f117.results.toList (Tryz.f117.body.getD .skip) (sync_Sync_entriesCame.RV R) (kvc Tryz.prog 36 Tryz.f117.results.toList (Tryz.f117.body.getD .skip) (sync_Sync_entriesCame.RV R) [] 2000) [(0, [])] [(0, .pointer s), (1, .agg #[.int .i64 m0_0, .int .i64 m0_1, .int .i64 m0_2, .int .i64 m0_3, .int .i64 m0_4, .int .i64 m0_5, .int .i64 m0_6, .bool m0_7, .slice m0_8_b m0_8_l m0_8_c, .string m0_9])] w := by kernel_rfl
theorem sync_Sync_entriesCame.B0_sound {R : World → Prop}  (s : Option Addr) (m0_0 m0_1 m0_2 m0_3 m0_4 m0_5 m0_6 : Int) (m0_7 : Bool) (m0_8_b : Option Addr) (m0_8_l m0_8_c : Nat) (m0_9 : ByteArray) (w : World) (h : sync_Sync_entriesCame.B0 s m0_0 m0_1 m0_2 m0_3 m0_4 m0_5 m0_6 m0_7 m0_8_b m0_8_l m0_8_c m0_9 w   R) :
    KW Tryz.prog 117 36 (sync_Sync_entriesCame.RV R) ([(0, [])].map (toItem (Tryz.f117.body.getD .skip))) [(0, .pointer s), (1, .agg #[.int .i64 m0_0, .int .i64 m0_1, .int .i64 m0_2, .int .i64 m0_3, .int .i64 m0_4, .int .i64 m0_5, .int .i64 m0_6, .bool m0_7, .slice m0_8_b m0_8_l m0_8_c, .string m0_9])] w := by
  exact block_spec Tryz.func117 Tryz.mixed stops_nil (Eq.mp (sync_Sync_entriesCame.B0_eq s m0_0 m0_1 m0_2 m0_3 m0_4 m0_5 m0_6 m0_7 m0_8_b m0_8_l m0_8_c m0_9 w   R ) h)
theorem sync_Sync_entriesCame.sound (s : Option Addr) (m0_0 m0_1 m0_2 m0_3 m0_4 m0_5 m0_6 : Int) (m0_7 : Bool) (m0_8_b : Option Addr) (m0_8_l m0_8_c : Nat) (m0_9 : ByteArray) (w : World) (R : World → Prop) (h : sync_Sync_entriesCame.B0 s m0_0 m0_1 m0_2 m0_3 m0_4 m0_5 m0_6 m0_7 m0_8_b m0_8_l m0_8_c m0_9 w R) : sync_Sync_entriesCame.Call s m0_0 m0_1 m0_2 m0_3 m0_4 m0_5 m0_6 m0_7 m0_8_b m0_8_l m0_8_c m0_9 w R := by
  have hc := calls_of_block (args := #[.pointer s, .agg #[.int .i64 m0_0, .int .i64 m0_1, .int .i64 m0_2, .int .i64 m0_3, .int .i64 m0_4, .int .i64 m0_5, .int .i64 m0_6, .bool m0_7, .slice m0_8_b m0_8_l m0_8_c, .string m0_9]]) Tryz.func117 (body := (Tryz.f117.body.getD .skip)) (by kernel_rfl) (by kernel_rfl) (args_slot _) (sync_Sync_entriesCame.B0_sound s m0_0 m0_1 m0_2 m0_3 m0_4 m0_5 m0_6 m0_7 m0_8_b m0_8_l m0_8_c m0_9 w h)
  exact hc.mono fun e w' he => by
    obtain ⟨v, rfl, hv⟩ := he
    exact sync_Sync_entriesCame.RV_elim hv
def sync_Sync_snapCame.B0 (s : Option Addr) (m0_0 m0_1 m0_2 m0_3 m0_4 m0_5 m0_6 : Int) (m0_7 : Bool) (m0_8_b : Option Addr) (m0_8_l m0_8_c : Nat) (m0_9 : ByteArray) (w : World)   (R : World → Prop) : Prop :=
  New (.cells #[.int .i64 m0_0, .int .i64 m0_1, .int .i64 m0_2, .int .i64 m0_3, .int .i64 m0_4, .int .i64 m0_5, .int .i64 m0_6, .bool m0_7, .slice m0_8_b m0_8_l m0_8_c, .string m0_9] 40) w fun m0_ w1 =>
  Pn s fun a =>
  LdP (a.add 1) w1.drew fun x9 =>
  LdI .i64 ⟨m0_, 1, none⟩ w1.drew fun x11 =>
  LdI .i64 ⟨m0_, 3, none⟩ w1.drew fun x13 =>
  elect_Elect_Heard.Call x9 x11 x13 w1.drew fun r14 w2 =>
  sync_Sync_persist.Call s w2 fun w3 =>
  Bm (!r14) (
    LdI .i64 ⟨m0_, 1, none⟩ w3 fun x21 =>
    sync_Sync_reply.Call s (4 : Int) x21 false (0 : Int) w3 fun w4 =>
    R  w4) (
    LdI .i64 ⟨m0_, 4, none⟩ w3.drew fun x24 =>
    Pn s fun a_1 =>
    LdI .i64 (a_1.add 2) w3.drew fun x28 =>
    Bm (decide (x24 ≤ x28)) (
      LdI .i64 ⟨m0_, 1, none⟩ w3.drew.drew fun x32 =>
      Pn s fun a_2 =>
      LdI .i64 (a_2.add 2) w3.drew.drew fun x36 =>
      sync_Sync_reply.Call s (4 : Int) x32 true x36 w3.drew.drew fun w5 =>
      R  w5) (
      Pn s fun a_3 =>
      LdP a_3 w3.drew.drew fun x41 =>
      LdI .i64 ⟨m0_, 4, none⟩ w3.drew.drew fun x43 =>
      LdI .i64 ⟨m0_, 5, none⟩ w3.drew.drew fun x45 =>
      LdS ⟨m0_, 9, none⟩ w3.drew.drew fun x47 =>
      rlog_Log_Install.Call x41 x43 x45 x47 w3.drew.drew fun r48 w6 =>
      Bm (r48 != (0 : Int)) (
        LdI .i64 ⟨m0_, 1, none⟩ w6 fun x53 =>
        sync_Sync_reply.Call s (4 : Int) x53 false (0 : Int) w6 fun w7 =>
        R  w7) (
        sync_Sync_refresh.Call s w6 fun w8 =>
        LdI .i64 ⟨m0_, 4, none⟩ w8 fun x59 =>
        Pn s fun a_4 =>
        Sts [.int .i64 x59] (a_4.add 2) 0 w8 fun w9 =>
        LdI .i64 ⟨m0_, 1, none⟩ w9 fun x64 =>
        LdI .i64 ⟨m0_, 4, none⟩ w9 fun x66 =>
        sync_Sync_reply.Call s (4 : Int) x64 true x66 w9 fun w10 =>
        R  w10)))
theorem sync_Sync_snapCame.B0_eq (s : Option Addr) (m0_0 m0_1 m0_2 m0_3 m0_4 m0_5 m0_6 : Int) (m0_7 : Bool) (m0_8_b : Option Addr) (m0_8_l m0_8_c : Nat) (m0_9 : ByteArray) (w : World)   (R : World → Prop)  :
    (
  New (.cells #[.int .i64 m0_0, .int .i64 m0_1, .int .i64 m0_2, .int .i64 m0_3, .int .i64 m0_4, .int .i64 m0_5, .int .i64 m0_6, .bool m0_7, .slice m0_8_b m0_8_l m0_8_c, .string m0_9] 40) w fun m0_ w1 =>
  Pn s fun a =>
  LdP (a.add 1) w1.drew fun x9 =>
  LdI .i64 ⟨m0_, 1, none⟩ w1.drew fun x11 =>
  LdI .i64 ⟨m0_, 3, none⟩ w1.drew fun x13 =>
  elect_Elect_Heard.Call x9 x11 x13 w1.drew fun r14 w2 =>
  sync_Sync_persist.Call s w2 fun w3 =>
  Bm (!r14) (
    LdI .i64 ⟨m0_, 1, none⟩ w3 fun x21 =>
    sync_Sync_reply.Call s (4 : Int) x21 false (0 : Int) w3 fun w4 =>
    R  w4) (
    LdI .i64 ⟨m0_, 4, none⟩ w3.drew fun x24 =>
    Pn s fun a_1 =>
    LdI .i64 (a_1.add 2) w3.drew fun x28 =>
    Bm (decide (x24 ≤ x28)) (
      LdI .i64 ⟨m0_, 1, none⟩ w3.drew.drew fun x32 =>
      Pn s fun a_2 =>
      LdI .i64 (a_2.add 2) w3.drew.drew fun x36 =>
      sync_Sync_reply.Call s (4 : Int) x32 true x36 w3.drew.drew fun w5 =>
      R  w5) (
      Pn s fun a_3 =>
      LdP a_3 w3.drew.drew fun x41 =>
      LdI .i64 ⟨m0_, 4, none⟩ w3.drew.drew fun x43 =>
      LdI .i64 ⟨m0_, 5, none⟩ w3.drew.drew fun x45 =>
      LdS ⟨m0_, 9, none⟩ w3.drew.drew fun x47 =>
      rlog_Log_Install.Call x41 x43 x45 x47 w3.drew.drew fun r48 w6 =>
      Bm (r48 != (0 : Int)) (
        LdI .i64 ⟨m0_, 1, none⟩ w6 fun x53 =>
        sync_Sync_reply.Call s (4 : Int) x53 false (0 : Int) w6 fun w7 =>
        R  w7) (
        sync_Sync_refresh.Call s w6 fun w8 =>
        LdI .i64 ⟨m0_, 4, none⟩ w8 fun x59 =>
        Pn s fun a_4 =>
        Sts [.int .i64 x59] (a_4.add 2) 0 w8 fun w9 =>
        LdI .i64 ⟨m0_, 1, none⟩ w9 fun x64 =>
        LdI .i64 ⟨m0_, 4, none⟩ w9 fun x66 =>
        sync_Sync_reply.Call s (4 : Int) x64 true x66 w9 fun w10 =>
        R  w10)))) = kstep Tryz.prog 68 Tryz.f118.results.toList (Tryz.f118.body.getD .skip) (sync_Sync_snapCame.RV R) (kvc Tryz.prog 68 Tryz.f118.results.toList (Tryz.f118.body.getD .skip) (sync_Sync_snapCame.RV R) [] 2000) [(0, [])] [(0, .pointer s), (1, .agg #[.int .i64 m0_0, .int .i64 m0_1, .int .i64 m0_2, .int .i64 m0_3, .int .i64 m0_4, .int .i64 m0_5, .int .i64 m0_6, .bool m0_7, .slice m0_8_b m0_8_l m0_8_c, .string m0_9])] w := by kernel_rfl
theorem sync_Sync_snapCame.B0_sound {R : World → Prop}  (s : Option Addr) (m0_0 m0_1 m0_2 m0_3 m0_4 m0_5 m0_6 : Int) (m0_7 : Bool) (m0_8_b : Option Addr) (m0_8_l m0_8_c : Nat) (m0_9 : ByteArray) (w : World) (h : sync_Sync_snapCame.B0 s m0_0 m0_1 m0_2 m0_3 m0_4 m0_5 m0_6 m0_7 m0_8_b m0_8_l m0_8_c m0_9 w   R) :
    KW Tryz.prog 118 68 (sync_Sync_snapCame.RV R) ([(0, [])].map (toItem (Tryz.f118.body.getD .skip))) [(0, .pointer s), (1, .agg #[.int .i64 m0_0, .int .i64 m0_1, .int .i64 m0_2, .int .i64 m0_3, .int .i64 m0_4, .int .i64 m0_5, .int .i64 m0_6, .bool m0_7, .slice m0_8_b m0_8_l m0_8_c, .string m0_9])] w := by
  exact block_spec Tryz.func118 Tryz.mixed stops_nil (Eq.mp (sync_Sync_snapCame.B0_eq s m0_0 m0_1 m0_2 m0_3 m0_4 m0_5 m0_6 m0_7 m0_8_b m0_8_l m0_8_c m0_9 w   R ) h)
theorem sync_Sync_snapCame.sound (s : Option Addr) (m0_0 m0_1 m0_2 m0_3 m0_4 m0_5 m0_6 : Int) (m0_7 : Bool) (m0_8_b : Option Addr) (m0_8_l m0_8_c : Nat) (m0_9 : ByteArray) (w : World) (R : World → Prop) (h : sync_Sync_snapCame.B0 s m0_0 m0_1 m0_2 m0_3 m0_4 m0_5 m0_6 m0_7 m0_8_b m0_8_l m0_8_c m0_9 w R) : sync_Sync_snapCame.Call s m0_0 m0_1 m0_2 m0_3 m0_4 m0_5 m0_6 m0_7 m0_8_b m0_8_l m0_8_c m0_9 w R := by
  have hc := calls_of_block (args := #[.pointer s, .agg #[.int .i64 m0_0, .int .i64 m0_1, .int .i64 m0_2, .int .i64 m0_3, .int .i64 m0_4, .int .i64 m0_5, .int .i64 m0_6, .bool m0_7, .slice m0_8_b m0_8_l m0_8_c, .string m0_9]]) Tryz.func118 (body := (Tryz.f118.body.getD .skip)) (by kernel_rfl) (by kernel_rfl) (args_slot _) (sync_Sync_snapCame.B0_sound s m0_0 m0_1 m0_2 m0_3 m0_4 m0_5 m0_6 m0_7 m0_8_b m0_8_l m0_8_c m0_9 w h)
  exact hc.mono fun e w' he => by
    obtain ⟨v, rfl, hv⟩ := he
    exact sync_Sync_snapCame.RV_elim hv
def sync_Sync_ackCame.B1 (s : Option Addr) (m0 : Nat) (t34 : Bool) (w : World)   (R : World → Prop) : Prop :=
  Bm t34 (
    R  w) (
    LdB ⟨m0, 7, none⟩ w fun x36 =>
    Bm x36 (
      LdI .i64 ⟨m0, 1, none⟩ w fun x39 =>
      LdI .i64 ⟨m0, 4, none⟩ w fun x41 =>
      sync_Sync_acked.Call s x39 x41 w fun w1 =>
      R  w1) (
      LdI .i64 ⟨m0, 1, none⟩ w fun x45 =>
      LdI .i64 ⟨m0, 4, none⟩ w fun x47 =>
      sync_Sync_refused.Call s x45 x47 w fun w2 =>
      R  w2))
theorem sync_Sync_ackCame.B1_eq (s : Option Addr) (m0 : Nat) (t34 : Bool) (w : World)   (R : World → Prop)  :
    (
  Bm t34 (
    R  w) (
    LdB ⟨m0, 7, none⟩ w fun x36 =>
    Bm x36 (
      LdI .i64 ⟨m0, 1, none⟩ w fun x39 =>
      LdI .i64 ⟨m0, 4, none⟩ w fun x41 =>
      sync_Sync_acked.Call s x39 x41 w fun w1 =>
      R  w1) (
      LdI .i64 ⟨m0, 1, none⟩ w fun x45 =>
      LdI .i64 ⟨m0, 4, none⟩ w fun x47 =>
      sync_Sync_refused.Call s x45 x47 w fun w2 =>
      R  w2))) = kstep Tryz.prog 49 Tryz.f119.results.toList (Tryz.f119.body.getD .skip) (sync_Sync_ackCame.RV R) (kvc Tryz.prog 49 Tryz.f119.results.toList (Tryz.f119.body.getD .skip) (sync_Sync_ackCame.RV R) [] 2000) [(0, [1, 1, 1, 1, 1, 0, 1]), (0, [1, 1, 1, 1, 1, 1])] [(0, .pointer s), (3, .pointer (some ⟨m0, 0, none⟩)), (34, .bool t34)] w := by kernel_rfl
theorem sync_Sync_ackCame.B1_sound {R : World → Prop}  (s : Option Addr) (m0 : Nat) (t34 : Bool) (w : World) (h : sync_Sync_ackCame.B1 s m0 t34 w   R) :
    KW Tryz.prog 119 49 (sync_Sync_ackCame.RV R) ([(0, [1, 1, 1, 1, 1, 0, 1]), (0, [1, 1, 1, 1, 1, 1])].map (toItem (Tryz.f119.body.getD .skip))) [(0, .pointer s), (3, .pointer (some ⟨m0, 0, none⟩)), (34, .bool t34)] w := by
  exact block_spec Tryz.func119 Tryz.mixed stops_nil (Eq.mp (sync_Sync_ackCame.B1_eq s m0 t34 w   R ) h)
def sync_Sync_ackCame.B0 (s : Option Addr) (m0_0 m0_1 m0_2 m0_3 m0_4 m0_5 m0_6 : Int) (m0_7 : Bool) (m0_8_b : Option Addr) (m0_8_l m0_8_c : Nat) (m0_9 : ByteArray) (w : World)   (R : World → Prop) : Prop :=
  New (.cells #[.int .i64 m0_0, .int .i64 m0_1, .int .i64 m0_2, .int .i64 m0_3, .int .i64 m0_4, .int .i64 m0_5, .int .i64 m0_6, .bool m0_7, .slice m0_8_b m0_8_l m0_8_c, .string m0_9] 40) w fun m0_ w1 =>
  Pn s fun a =>
  LdP (a.add 1) w1.drew fun x10 =>
  LdI .i64 ⟨m0_, 3, none⟩ w1.drew fun x12 =>
  elect_Elect_See.Call x10 x12 w1.drew fun r13 w2 =>
  Bm r13 (
    sync_Sync_persist.Call s w2 fun w3 =>
    R  w3) (
    Pn s fun a_1 =>
    LdP (a_1.add 1) w2 fun x20 =>
    elect_Elect_Role.Call x20 w2 fun r21 w4 =>
    Pn s fun a_2 =>
    LdP (a_2.add 1) w4 fun x25 =>
    elect_Elect_Term.Call x25 w4 fun r26 w5 =>
    Bm (r21 != (2 : Int)) (
      sync_Sync_ackCame.B1 s m0_ true w5  R) (
      LdI .i64 ⟨m0_, 3, none⟩ w5 fun x31 =>
      sync_Sync_ackCame.B1 s m0_ (x31 != r26) w5  R))
theorem sync_Sync_ackCame.B0_eq (s : Option Addr) (m0_0 m0_1 m0_2 m0_3 m0_4 m0_5 m0_6 : Int) (m0_7 : Bool) (m0_8_b : Option Addr) (m0_8_l m0_8_c : Nat) (m0_9 : ByteArray) (w : World)   (R : World → Prop) (sB1 : Option Addr → Nat → Bool → World → Prop) :
    (
  New (.cells #[.int .i64 m0_0, .int .i64 m0_1, .int .i64 m0_2, .int .i64 m0_3, .int .i64 m0_4, .int .i64 m0_5, .int .i64 m0_6, .bool m0_7, .slice m0_8_b m0_8_l m0_8_c, .string m0_9] 40) w fun m0_ w1 =>
  Pn s fun a =>
  LdP (a.add 1) w1.drew fun x10 =>
  LdI .i64 ⟨m0_, 3, none⟩ w1.drew fun x12 =>
  elect_Elect_See.Call x10 x12 w1.drew fun r13 w2 =>
  Bm r13 (
    sync_Sync_persist.Call s w2 fun w3 =>
    R  w3) (
    Pn s fun a_1 =>
    LdP (a_1.add 1) w2 fun x20 =>
    elect_Elect_Role.Call x20 w2 fun r21 w4 =>
    Pn s fun a_2 =>
    LdP (a_2.add 1) w4 fun x25 =>
    elect_Elect_Term.Call x25 w4 fun r26 w5 =>
    Bm (r21 != (2 : Int)) (
      sB1 s m0_ true w5) (
      LdI .i64 ⟨m0_, 3, none⟩ w5 fun x31 =>
      sB1 s m0_ (x31 != r26) w5))) = kstep Tryz.prog 49 Tryz.f119.results.toList (Tryz.f119.body.getD .skip) (sync_Sync_ackCame.RV R) (kvc Tryz.prog 49 Tryz.f119.results.toList (Tryz.f119.body.getD .skip) (sync_Sync_ackCame.RV R) [([(0, [1, 1, 1, 1, 1, 0, 1]), (0, [1, 1, 1, 1, 1, 1])], fun σ w => dP (slotOf σ 0) fun s_ => dK (slotOf σ 3) fun m0_ => dB (slotOf σ 34) fun t34_ => sB1 s_ m0_ t34_ w)] 2000) [(0, [])] [(0, .pointer s), (1, .agg #[.int .i64 m0_0, .int .i64 m0_1, .int .i64 m0_2, .int .i64 m0_3, .int .i64 m0_4, .int .i64 m0_5, .int .i64 m0_6, .bool m0_7, .slice m0_8_b m0_8_l m0_8_c, .string m0_9])] w := by kernel_rfl
theorem sync_Sync_ackCame.B0_sound {R : World → Prop}  (s : Option Addr) (m0_0 m0_1 m0_2 m0_3 m0_4 m0_5 m0_6 : Int) (m0_7 : Bool) (m0_8_b : Option Addr) (m0_8_l m0_8_c : Nat) (m0_9 : ByteArray) (w : World) (h : sync_Sync_ackCame.B0 s m0_0 m0_1 m0_2 m0_3 m0_4 m0_5 m0_6 m0_7 m0_8_b m0_8_l m0_8_c m0_9 w   R) :
    KW Tryz.prog 119 49 (sync_Sync_ackCame.RV R) ([(0, [])].map (toItem (Tryz.f119.body.getD .skip))) [(0, .pointer s), (1, .agg #[.int .i64 m0_0, .int .i64 m0_1, .int .i64 m0_2, .int .i64 m0_3, .int .i64 m0_4, .int .i64 m0_5, .int .i64 m0_6, .bool m0_7, .slice m0_8_b m0_8_l m0_8_c, .string m0_9])] w := by
  exact block_spec Tryz.func119 Tryz.mixed (stops_cons (fun σ w h => by
      obtain ⟨s_, e0, h⟩ := dP_elim h
      obtain ⟨m0_, e1, h⟩ := dK_elim h
      obtain ⟨t34_, e2, h⟩ := dB_elim h
      exact (sync_Sync_ackCame.B1_sound  s_ m0_ t34_ w h).weaken (Sub.cons (Sub.cons (Sub.cons (Sub.nil _) e2) e1) e0)) stops_nil) (Eq.mp (sync_Sync_ackCame.B0_eq s m0_0 m0_1 m0_2 m0_3 m0_4 m0_5 m0_6 m0_7 m0_8_b m0_8_l m0_8_c m0_9 w   R (fun s_ m0_ t34_ w => sync_Sync_ackCame.B1 s_ m0_ t34_ w  R)) h)
theorem sync_Sync_ackCame.sound (s : Option Addr) (m0_0 m0_1 m0_2 m0_3 m0_4 m0_5 m0_6 : Int) (m0_7 : Bool) (m0_8_b : Option Addr) (m0_8_l m0_8_c : Nat) (m0_9 : ByteArray) (w : World) (R : World → Prop) (h : sync_Sync_ackCame.B0 s m0_0 m0_1 m0_2 m0_3 m0_4 m0_5 m0_6 m0_7 m0_8_b m0_8_l m0_8_c m0_9 w R) : sync_Sync_ackCame.Call s m0_0 m0_1 m0_2 m0_3 m0_4 m0_5 m0_6 m0_7 m0_8_b m0_8_l m0_8_c m0_9 w R := by
  have hc := calls_of_block (args := #[.pointer s, .agg #[.int .i64 m0_0, .int .i64 m0_1, .int .i64 m0_2, .int .i64 m0_3, .int .i64 m0_4, .int .i64 m0_5, .int .i64 m0_6, .bool m0_7, .slice m0_8_b m0_8_l m0_8_c, .string m0_9]]) Tryz.func119 (body := (Tryz.f119.body.getD .skip)) (by kernel_rfl) (by kernel_rfl) (args_slot _) (sync_Sync_ackCame.B0_sound s m0_0 m0_1 m0_2 m0_3 m0_4 m0_5 m0_6 m0_7 m0_8_b m0_8_l m0_8_c m0_9 w h)
  exact hc.mono fun e w' he => by
    obtain ⟨v, rfl, hv⟩ := he
    exact sync_Sync_ackCame.RV_elim hv
def electm_Elect_AskedVote.B2 (e : Option Addr) (from0 : Int) (t44 : Bool) (w : World)   (R : Bool → World → Prop) : Prop :=
  Bm t44 (
    R false w) (
    Pn e fun a =>
    Sts [.int .i64 from0] (a.add 2) 0 w fun w1 =>
    Pn e fun a_1 =>
    Sts [.int .i64 (0 : Int)] (a_1.add 5) 0 w1 fun w2 =>
    R true w2)
theorem electm_Elect_AskedVote.B2_eq (e : Option Addr) (from0 : Int) (t44 : Bool) (w : World)   (R : Bool → World → Prop)  :
    (
  Bm t44 (
    R false w) (
    Pn e fun a =>
    Sts [.int .i64 from0] (a.add 2) 0 w fun w1 =>
    Pn e fun a_1 =>
    Sts [.int .i64 (0 : Int)] (a_1.add 5) 0 w1 fun w2 =>
    R true w2)) = kstep Tryz.prog 52 Tryz.f120.results.toList (Tryz.f120.body.getD .skip) (electm_Elect_AskedVote.RV R) (kvc Tryz.prog 52 Tryz.f120.results.toList (Tryz.f120.body.getD .skip) (electm_Elect_AskedVote.RV R) [] 2000) [(0, [1, 1, 1, 0, 1]), (0, [1, 1, 1, 1])] [(0, .pointer e), (1, .int .i64 from0), (44, .bool t44)] w := by kernel_rfl
theorem electm_Elect_AskedVote.B2_sound {R : Bool → World → Prop}  (e : Option Addr) (from0 : Int) (t44 : Bool) (w : World) (h : electm_Elect_AskedVote.B2 e from0 t44 w   R) :
    KW Tryz.prog 120 52 (electm_Elect_AskedVote.RV R) ([(0, [1, 1, 1, 0, 1]), (0, [1, 1, 1, 1])].map (toItem (Tryz.f120.body.getD .skip))) [(0, .pointer e), (1, .int .i64 from0), (44, .bool t44)] w := by
  exact block_spec Tryz.func120 Tryz.mixed stops_nil (Eq.mp (electm_Elect_AskedVote.B2_eq e from0 t44 w   R ) h)
def electm_Elect_AskedVote.B1 (e : Option Addr) (from0 term : Int) (upToDate t16 : Bool) (w : World)   (R : Bool → World → Prop) : Prop :=
  Bm t16 (
    R false w) (
    electm_Elect_See.Call e term w fun r19 w1 =>
    Pn e fun a =>
    LdI .i64 (a.add 1) w1 fun x24 =>
    Bm (decide (term < x24)) (
      electm_Elect_AskedVote.B2 e from0 true w1  R) (
      Bm (!upToDate) (
        electm_Elect_AskedVote.B2 e from0 true w1  R) (
        Pn e fun a_1 =>
        LdI .i64 (a_1.add 2) w1 fun x34 =>
        Bm (x34 != (-1 : Int)) (
          Pn e fun a_2 =>
          LdI .i64 (a_2.add 2) w1 fun x40 =>
          electm_Elect_AskedVote.B2 e from0 (x40 != from0) w1  R) (
          electm_Elect_AskedVote.B2 e from0 false w1  R))))
theorem electm_Elect_AskedVote.B1_eq (e : Option Addr) (from0 term : Int) (upToDate t16 : Bool) (w : World)   (R : Bool → World → Prop) (sB2 : Option Addr → Int → Bool → World → Prop) :
    (
  Bm t16 (
    R false w) (
    electm_Elect_See.Call e term w fun r19 w1 =>
    Pn e fun a =>
    LdI .i64 (a.add 1) w1 fun x24 =>
    Bm (decide (term < x24)) (
      sB2 e from0 true w1) (
      Bm (!upToDate) (
        sB2 e from0 true w1) (
        Pn e fun a_1 =>
        LdI .i64 (a_1.add 2) w1 fun x34 =>
        Bm (x34 != (-1 : Int)) (
          Pn e fun a_2 =>
          LdI .i64 (a_2.add 2) w1 fun x40 =>
          sB2 e from0 (x40 != from0) w1) (
          sB2 e from0 false w1))))) = kstep Tryz.prog 52 Tryz.f120.results.toList (Tryz.f120.body.getD .skip) (electm_Elect_AskedVote.RV R) (kvc Tryz.prog 52 Tryz.f120.results.toList (Tryz.f120.body.getD .skip) (electm_Elect_AskedVote.RV R) [([(0, [1, 1, 1, 0, 1]), (0, [1, 1, 1, 1])], fun σ w => dP (slotOf σ 0) fun e_ => dI .i64 (slotOf σ 1) fun from0_ => dB (slotOf σ 44) fun t44_ => sB2 e_ from0_ t44_ w)] 2000) [(0, [1, 0, 1]), (0, [1, 1])] [(0, .pointer e), (1, .int .i64 from0), (2, .int .i64 term), (3, .bool upToDate), (16, .bool t16)] w := by kernel_rfl
theorem electm_Elect_AskedVote.B1_sound {R : Bool → World → Prop}  (e : Option Addr) (from0 term : Int) (upToDate t16 : Bool) (w : World) (h : electm_Elect_AskedVote.B1 e from0 term upToDate t16 w   R) :
    KW Tryz.prog 120 52 (electm_Elect_AskedVote.RV R) ([(0, [1, 0, 1]), (0, [1, 1])].map (toItem (Tryz.f120.body.getD .skip))) [(0, .pointer e), (1, .int .i64 from0), (2, .int .i64 term), (3, .bool upToDate), (16, .bool t16)] w := by
  exact block_spec Tryz.func120 Tryz.mixed (stops_cons (fun σ w h => by
      obtain ⟨e_, e0, h⟩ := dP_elim h
      obtain ⟨from0_, e1, h⟩ := dI_elim h
      obtain ⟨t44_, e2, h⟩ := dB_elim h
      exact (electm_Elect_AskedVote.B2_sound  e_ from0_ t44_ w h).weaken (Sub.cons (Sub.cons (Sub.cons (Sub.nil _) e2) e1) e0)) stops_nil) (Eq.mp (electm_Elect_AskedVote.B1_eq e from0 term upToDate t16 w   R (fun e_ from0_ t44_ w => electm_Elect_AskedVote.B2 e_ from0_ t44_ w  R)) h)
def electm_Elect_AskedVote.B0 (e : Option Addr) (from0 term : Int) (upToDate : Bool) (w : World)   (R : Bool → World → Prop) : Prop :=
  electm_Elect_peer.Call e from0 w fun r11 w1 =>
  Bm (!r11) (
    electm_Elect_AskedVote.B1 e from0 term upToDate true w1  R) (
    electm_Elect_AskedVote.B1 e from0 term upToDate (decide (term > (72057594037927936 : Int))) w1  R)
theorem electm_Elect_AskedVote.B0_eq (e : Option Addr) (from0 term : Int) (upToDate : Bool) (w : World)   (R : Bool → World → Prop) (sB1 : Option Addr → Int → Int → Bool → Bool → World → Prop) :
    (
  electm_Elect_peer.Call e from0 w fun r11 w1 =>
  Bm (!r11) (
    sB1 e from0 term upToDate true w1) (
    sB1 e from0 term upToDate (decide (term > (72057594037927936 : Int))) w1)) = kstep Tryz.prog 52 Tryz.f120.results.toList (Tryz.f120.body.getD .skip) (electm_Elect_AskedVote.RV R) (kvc Tryz.prog 52 Tryz.f120.results.toList (Tryz.f120.body.getD .skip) (electm_Elect_AskedVote.RV R) [([(0, [1, 0, 1]), (0, [1, 1])], fun σ w => dP (slotOf σ 0) fun e_ => dI .i64 (slotOf σ 1) fun from0_ => dI .i64 (slotOf σ 2) fun term_ => dB (slotOf σ 3) fun upToDate_ => dB (slotOf σ 16) fun t16_ => sB1 e_ from0_ term_ upToDate_ t16_ w)] 2000) [(0, [])] [(0, .pointer e), (1, .int .i64 from0), (2, .int .i64 term), (3, .bool upToDate)] w := by kernel_rfl
theorem electm_Elect_AskedVote.B0_sound {R : Bool → World → Prop}  (e : Option Addr) (from0 term : Int) (upToDate : Bool) (w : World) (h : electm_Elect_AskedVote.B0 e from0 term upToDate w   R) :
    KW Tryz.prog 120 52 (electm_Elect_AskedVote.RV R) ([(0, [])].map (toItem (Tryz.f120.body.getD .skip))) [(0, .pointer e), (1, .int .i64 from0), (2, .int .i64 term), (3, .bool upToDate)] w := by
  exact block_spec Tryz.func120 Tryz.mixed (stops_cons (fun σ w h => by
      obtain ⟨e_, e0, h⟩ := dP_elim h
      obtain ⟨from0_, e1, h⟩ := dI_elim h
      obtain ⟨term_, e2, h⟩ := dI_elim h
      obtain ⟨upToDate_, e3, h⟩ := dB_elim h
      obtain ⟨t16_, e4, h⟩ := dB_elim h
      exact (electm_Elect_AskedVote.B1_sound  e_ from0_ term_ upToDate_ t16_ w h).weaken (Sub.cons (Sub.cons (Sub.cons (Sub.cons (Sub.cons (Sub.nil _) e4) e3) e2) e1) e0)) stops_nil) (Eq.mp (electm_Elect_AskedVote.B0_eq e from0 term upToDate w   R (fun e_ from0_ term_ upToDate_ t16_ w => electm_Elect_AskedVote.B1 e_ from0_ term_ upToDate_ t16_ w  R)) h)
theorem electm_Elect_AskedVote.sound (e : Option Addr) (from0 term : Int) (upToDate : Bool) (w : World) (R : Bool → World → Prop) (h : electm_Elect_AskedVote.B0 e from0 term upToDate w R) : electm_Elect_AskedVote.Call e from0 term upToDate w R := by
  have hc := calls_of_block (args := #[.pointer e, .int .i64 from0, .int .i64 term, .bool upToDate]) Tryz.func120 (body := (Tryz.f120.body.getD .skip)) (by kernel_rfl) (by kernel_rfl) (args_slot _) (electm_Elect_AskedVote.B0_sound e from0 term upToDate w h)
  exact hc.mono fun e w' he => by
    obtain ⟨v, rfl, hv⟩ := he
    exact electm_Elect_AskedVote.RV_elim hv
def electm_Elect_GotVote.B3 (e : Option Addr) (n p : Int) (w : World) (N1 : Option Addr → Int → Int → World → Prop)  (R : Bool → World → Prop) : Prop :=
  N1 e n (IntKind.i64.wrap (p + (1 : Int))) w
theorem electm_Elect_GotVote.B3_eq (e : Option Addr) (n p : Int) (w : World) (N1 : Option Addr → Int → Int → World → Prop)  (R : Bool → World → Prop)  :
    (
  N1 e n (IntKind.i64.wrap (p + (1 : Int))) w) = kstep Tryz.prog 73 Tryz.f121.results.toList (Tryz.f121.body.getD .skip) (electm_Elect_GotVote.RV R) (kvc Tryz.prog 73 Tryz.f121.results.toList (Tryz.f121.body.getD .skip) (electm_Elect_GotVote.RV R) [([(0, [1, 1, 1, 1, 1, 0, 1, 0, 0]), (2, [1, 1, 1, 1, 1, 0, 1, 0, 0]), (1, [0]), (0, [1, 1, 1, 1, 1, 1])], fun σ w => dP (slotOf σ 0) fun e_ => dI .i64 (slotOf σ 9) fun n_ => dI .i64 (slotOf σ 10) fun p_ => N1 e_ n_ p_ w)] 2000) [(0, [1, 1, 1, 1, 1, 0, 1, 0, 0, 1, 1]), (2, [1, 1, 1, 1, 1, 0, 1, 0, 0]), (1, [0]), (0, [1, 1, 1, 1, 1, 1])] [(0, .pointer e), (9, .int .i64 n), (10, .int .i64 p)] w := by kernel_rfl
theorem electm_Elect_GotVote.B3_sound {R : Bool → World → Prop} {N1 : Option Addr → Int → Int → World → Prop} (hN1 : ∀ e n p w, N1 e n p w → KW Tryz.prog 121 73 (electm_Elect_GotVote.RV R) ([(0, [1, 1, 1, 1, 1, 0, 1, 0, 0]), (2, [1, 1, 1, 1, 1, 0, 1, 0, 0]), (1, [0]), (0, [1, 1, 1, 1, 1, 1])].map (toItem (Tryz.f121.body.getD .skip))) [(0, .pointer e), (9, .int .i64 n), (10, .int .i64 p)] w) (e : Option Addr) (n p : Int) (w : World) (h : electm_Elect_GotVote.B3 e n p w N1  R) :
    KW Tryz.prog 121 73 (electm_Elect_GotVote.RV R) ([(0, [1, 1, 1, 1, 1, 0, 1, 0, 0, 1, 1]), (2, [1, 1, 1, 1, 1, 0, 1, 0, 0]), (1, [0]), (0, [1, 1, 1, 1, 1, 1])].map (toItem (Tryz.f121.body.getD .skip))) [(0, .pointer e), (9, .int .i64 n), (10, .int .i64 p)] w := by
  exact block_spec Tryz.func121 Tryz.mixed (stops_cons (fun σ w h => by
      obtain ⟨e_, e0, h⟩ := dP_elim h
      obtain ⟨n_, e1, h⟩ := dI_elim h
      obtain ⟨p_, e2, h⟩ := dI_elim h
      exact (hN1 e_ n_ p_ w h).weaken (Sub.cons (Sub.cons (Sub.cons (Sub.nil _) e2) e1) e0)) stops_nil) (Eq.mp (electm_Elect_GotVote.B3_eq e n p w N1  R ) h)
def electm_Elect_GotVote.L1b (e : Option Addr) (n p : Int) (w : World)  (N1 : Option Addr → Int → Int → World → Prop) (R : Bool → World → Prop) : Prop :=
  Bm (decide (p < (3 : Int))) (
    Pn e fun a =>
    (0 ≤ p ∧ p < ((3 : Nat) : Int)) ∧
    LdB (Addr.add (a.add 6) (p.toNat * 1)) w fun x55 =>
    Bm x55 (
      electm_Elect_GotVote.B3 e (IntKind.i64.wrap (n + (1 : Int))) p w N1 R) (
      electm_Elect_GotVote.B3 e n p w N1 R)) (
    Bm (decide (n < (2 : Int))) (
      R false w) (
      Pn e fun a_1 =>
      LdI .i64 a_1 w fun x66 =>
      Pn e fun a_2 =>
      Sts [.int .i64 (2 : Int)] (a_2.add 3) 0 w fun w1 =>
      Pn e fun a_3 =>
      Sts [.int .i64 x66] (a_3.add 4) 0 w1 fun w2 =>
      Pn e fun a_4 =>
      Sts [.int .i64 (0 : Int)] (a_4.add 5) 0 w2 fun w3 =>
      R true w3))
theorem electm_Elect_GotVote.L1b_eq (e : Option Addr) (n p : Int) (w : World)  (N1 : Option Addr → Int → Int → World → Prop) (R : Bool → World → Prop) (sB3 : Option Addr → Int → Int → World → Prop) :
    (
  Bm (decide (p < (3 : Int))) (
    Pn e fun a =>
    (0 ≤ p ∧ p < ((3 : Nat) : Int)) ∧
    LdB (Addr.add (a.add 6) (p.toNat * 1)) w fun x55 =>
    Bm x55 (
      sB3 e (IntKind.i64.wrap (n + (1 : Int))) p w) (
      sB3 e n p w)) (
    Bm (decide (n < (2 : Int))) (
      R false w) (
      Pn e fun a_1 =>
      LdI .i64 a_1 w fun x66 =>
      Pn e fun a_2 =>
      Sts [.int .i64 (2 : Int)] (a_2.add 3) 0 w fun w1 =>
      Pn e fun a_3 =>
      Sts [.int .i64 x66] (a_3.add 4) 0 w1 fun w2 =>
      Pn e fun a_4 =>
      Sts [.int .i64 (0 : Int)] (a_4.add 5) 0 w2 fun w3 =>
      R true w3))) = kstep Tryz.prog 73 Tryz.f121.results.toList (Tryz.f121.body.getD .skip) (electm_Elect_GotVote.RV R) (kvc Tryz.prog 73 Tryz.f121.results.toList (Tryz.f121.body.getD .skip) (electm_Elect_GotVote.RV R) [([(0, [1, 1, 1, 1, 1, 0, 1, 0, 0, 1, 1]), (2, [1, 1, 1, 1, 1, 0, 1, 0, 0]), (1, [0]), (0, [1, 1, 1, 1, 1, 1])], fun σ w => dP (slotOf σ 0) fun e_ => dI .i64 (slotOf σ 9) fun n_ => dI .i64 (slotOf σ 10) fun p_ => sB3 e_ n_ p_ w)] 2000) [(0, [1, 1, 1, 1, 1, 0, 1, 0, 0]), (2, [1, 1, 1, 1, 1, 0, 1, 0, 0]), (1, [0]), (0, [1, 1, 1, 1, 1, 1])] [(0, .pointer e), (9, .int .i64 n), (10, .int .i64 p)] w := by kernel_rfl
theorem electm_Elect_GotVote.L1b_sound {R : Bool → World → Prop} {N1 : Option Addr → Int → Int → World → Prop} (hN1 : ∀ e n p w, N1 e n p w → KW Tryz.prog 121 73 (electm_Elect_GotVote.RV R) ([(0, [1, 1, 1, 1, 1, 0, 1, 0, 0]), (2, [1, 1, 1, 1, 1, 0, 1, 0, 0]), (1, [0]), (0, [1, 1, 1, 1, 1, 1])].map (toItem (Tryz.f121.body.getD .skip))) [(0, .pointer e), (9, .int .i64 n), (10, .int .i64 p)] w) (e : Option Addr) (n p : Int) (w : World) (h : electm_Elect_GotVote.L1b e n p w  N1 R) :
    KW Tryz.prog 121 73 (electm_Elect_GotVote.RV R) ([(0, [1, 1, 1, 1, 1, 0, 1, 0, 0]), (2, [1, 1, 1, 1, 1, 0, 1, 0, 0]), (1, [0]), (0, [1, 1, 1, 1, 1, 1])].map (toItem (Tryz.f121.body.getD .skip))) [(0, .pointer e), (9, .int .i64 n), (10, .int .i64 p)] w := by
  exact block_spec Tryz.func121 Tryz.mixed (stops_cons (fun σ w h => by
      obtain ⟨e_, e0, h⟩ := dP_elim h
      obtain ⟨n_, e1, h⟩ := dI_elim h
      obtain ⟨p_, e2, h⟩ := dI_elim h
      exact (electm_Elect_GotVote.B3_sound hN1 e_ n_ p_ w h).weaken (Sub.cons (Sub.cons (Sub.cons (Sub.nil _) e2) e1) e0)) stops_nil) (Eq.mp (electm_Elect_GotVote.L1b_eq e n p w  N1 R (fun e_ n_ p_ w => electm_Elect_GotVote.B3 e_ n_ p_ w N1 R)) h)
def electm_Elect_GotVote.L1 (e : Option Addr) (n p : Int) (w : World)  (R : Bool → World → Prop) : Prop :=
  ∃ (I : Nat → Option Addr → Int → Int → World → Prop) (m : Nat), I m e n p w ∧ ∀ m e n p w, I m e n p w → electm_Elect_GotVote.L1b e n p w  (fun e' n' p' w' => ∃ m', m' < m ∧ I m' e' n' p' w') R
theorem electm_Elect_GotVote.L1_sound {R : Bool → World → Prop}  (e : Option Addr) (n p : Int) (w : World) (h : electm_Elect_GotVote.L1 e n p w  R) :
    KW Tryz.prog 121 73 (electm_Elect_GotVote.RV R) ([(0, [1, 1, 1, 1, 1, 0, 1, 0, 0]), (2, [1, 1, 1, 1, 1, 0, 1, 0, 0]), (1, [0]), (0, [1, 1, 1, 1, 1, 1])].map (toItem (Tryz.f121.body.getD .skip))) [(0, .pointer e), (9, .int .i64 n), (10, .int .i64 p)] w := by
  obtain ⟨I, m, hBase, hr⟩ := h
  refine KW.loop (fun m σ w => ∃ (e : Option Addr) (n p : Int), σ = [(0, .pointer e), (9, .int .i64 n), (10, .int .i64 p)] ∧ I m e n p w) ?_ m _ w ⟨e, n, p, rfl, hBase⟩
  rintro m ih σ w ⟨e, n, p, rfl, hI⟩
  exact electm_Elect_GotVote.L1b_sound  (N1 := fun e' n' p' w' => ∃ m', m' < m ∧ I m' e' n' p' w') (fun e' n' p' w' hx => by obtain ⟨m', hlt, hI'⟩ := hx; exact ih m' hlt _ w' ⟨e', n', p', rfl, hI'⟩) e n p w (hr m e n p w hI)
def electm_Elect_GotVote.B2 (e : Option Addr) (from0 : Int) (t40 : Bool) (w : World)   (R : Bool → World → Prop) : Prop :=
  Bm t40 (
    R false w) (
    Pn e fun a =>
    (0 ≤ from0 ∧ from0 < ((3 : Nat) : Int)) ∧
    Sts [.bool true] (Addr.add (a.add 6) (from0.toNat * 1)) 0 w fun w1 =>
    electm_Elect_GotVote.L1 e (0 : Int) (0 : Int) w1  R)
theorem electm_Elect_GotVote.B2_eq (e : Option Addr) (from0 : Int) (t40 : Bool) (w : World)   (R : Bool → World → Prop) (sL1 : Option Addr → Int → Int → World → Prop) :
    (
  Bm t40 (
    R false w) (
    Pn e fun a =>
    (0 ≤ from0 ∧ from0 < ((3 : Nat) : Int)) ∧
    Sts [.bool true] (Addr.add (a.add 6) (from0.toNat * 1)) 0 w fun w1 =>
    sL1 e (0 : Int) (0 : Int) w1)) = kstep Tryz.prog 73 Tryz.f121.results.toList (Tryz.f121.body.getD .skip) (electm_Elect_GotVote.RV R) (kvc Tryz.prog 73 Tryz.f121.results.toList (Tryz.f121.body.getD .skip) (electm_Elect_GotVote.RV R) [([(0, [1, 1, 1, 1, 1, 0, 1, 0, 0]), (2, [1, 1, 1, 1, 1, 0, 1, 0, 0]), (1, [0]), (0, [1, 1, 1, 1, 1, 1])], fun σ w => dP (slotOf σ 0) fun e_ => dI .i64 (slotOf σ 9) fun n_ => dI .i64 (slotOf σ 10) fun p_ => sL1 e_ n_ p_ w)] 2000) [(0, [1, 1, 0, 1]), (0, [1, 1, 1])] [(0, .pointer e), (1, .int .i64 from0), (40, .bool t40)] w := by kernel_rfl
theorem electm_Elect_GotVote.B2_sound {R : Bool → World → Prop}  (e : Option Addr) (from0 : Int) (t40 : Bool) (w : World) (h : electm_Elect_GotVote.B2 e from0 t40 w   R) :
    KW Tryz.prog 121 73 (electm_Elect_GotVote.RV R) ([(0, [1, 1, 0, 1]), (0, [1, 1, 1])].map (toItem (Tryz.f121.body.getD .skip))) [(0, .pointer e), (1, .int .i64 from0), (40, .bool t40)] w := by
  exact block_spec Tryz.func121 Tryz.mixed (stops_cons (fun σ w h => by
      obtain ⟨e_, e0, h⟩ := dP_elim h
      obtain ⟨n_, e1, h⟩ := dI_elim h
      obtain ⟨p_, e2, h⟩ := dI_elim h
      exact (electm_Elect_GotVote.L1_sound  e_ n_ p_ w h).weaken (Sub.cons (Sub.cons (Sub.cons (Sub.nil _) e2) e1) e0)) stops_nil) (Eq.mp (electm_Elect_GotVote.B2_eq e from0 t40 w   R (fun e_ n_ p_ w => electm_Elect_GotVote.L1 e_ n_ p_ w  R)) h)
def electm_Elect_GotVote.B1 (e : Option Addr) (from0 term : Int) (granted t18 : Bool) (w : World)   (R : Bool → World → Prop) : Prop :=
  Bm t18 (
    R false w) (
    electm_Elect_See.Call e term w fun r21 w1 =>
    Bm r21 (
      electm_Elect_GotVote.B2 e from0 true w1  R) (
      Pn e fun a =>
      LdI .i64 (a.add 1) w1 fun x27 =>
      Bm (decide (term < x27)) (
        electm_Elect_GotVote.B2 e from0 true w1  R) (
        Pn e fun a_1 =>
        LdI .i64 (a_1.add 3) w1 fun x34 =>
        Bm (x34 != (1 : Int)) (
          electm_Elect_GotVote.B2 e from0 true w1  R) (
          electm_Elect_GotVote.B2 e from0 (!granted) w1  R))))
theorem electm_Elect_GotVote.B1_eq (e : Option Addr) (from0 term : Int) (granted t18 : Bool) (w : World)   (R : Bool → World → Prop) (sB2 : Option Addr → Int → Bool → World → Prop) :
    (
  Bm t18 (
    R false w) (
    electm_Elect_See.Call e term w fun r21 w1 =>
    Bm r21 (
      sB2 e from0 true w1) (
      Pn e fun a =>
      LdI .i64 (a.add 1) w1 fun x27 =>
      Bm (decide (term < x27)) (
        sB2 e from0 true w1) (
        Pn e fun a_1 =>
        LdI .i64 (a_1.add 3) w1 fun x34 =>
        Bm (x34 != (1 : Int)) (
          sB2 e from0 true w1) (
          sB2 e from0 (!granted) w1))))) = kstep Tryz.prog 73 Tryz.f121.results.toList (Tryz.f121.body.getD .skip) (electm_Elect_GotVote.RV R) (kvc Tryz.prog 73 Tryz.f121.results.toList (Tryz.f121.body.getD .skip) (electm_Elect_GotVote.RV R) [([(0, [1, 1, 0, 1]), (0, [1, 1, 1])], fun σ w => dP (slotOf σ 0) fun e_ => dI .i64 (slotOf σ 1) fun from0_ => dB (slotOf σ 40) fun t40_ => sB2 e_ from0_ t40_ w)] 2000) [(0, [1, 0, 1]), (0, [1, 1])] [(0, .pointer e), (1, .int .i64 from0), (2, .int .i64 term), (3, .bool granted), (18, .bool t18)] w := by kernel_rfl
theorem electm_Elect_GotVote.B1_sound {R : Bool → World → Prop}  (e : Option Addr) (from0 term : Int) (granted t18 : Bool) (w : World) (h : electm_Elect_GotVote.B1 e from0 term granted t18 w   R) :
    KW Tryz.prog 121 73 (electm_Elect_GotVote.RV R) ([(0, [1, 0, 1]), (0, [1, 1])].map (toItem (Tryz.f121.body.getD .skip))) [(0, .pointer e), (1, .int .i64 from0), (2, .int .i64 term), (3, .bool granted), (18, .bool t18)] w := by
  exact block_spec Tryz.func121 Tryz.mixed (stops_cons (fun σ w h => by
      obtain ⟨e_, e0, h⟩ := dP_elim h
      obtain ⟨from0_, e1, h⟩ := dI_elim h
      obtain ⟨t40_, e2, h⟩ := dB_elim h
      exact (electm_Elect_GotVote.B2_sound  e_ from0_ t40_ w h).weaken (Sub.cons (Sub.cons (Sub.cons (Sub.nil _) e2) e1) e0)) stops_nil) (Eq.mp (electm_Elect_GotVote.B1_eq e from0 term granted t18 w   R (fun e_ from0_ t40_ w => electm_Elect_GotVote.B2 e_ from0_ t40_ w  R)) h)
def electm_Elect_GotVote.B0 (e : Option Addr) (from0 term : Int) (granted : Bool) (w : World)   (R : Bool → World → Prop) : Prop :=
  electm_Elect_peer.Call e from0 w fun r13 w1 =>
  Bm (!r13) (
    electm_Elect_GotVote.B1 e from0 term granted true w1  R) (
    electm_Elect_GotVote.B1 e from0 term granted (decide (term > (72057594037927936 : Int))) w1  R)
theorem electm_Elect_GotVote.B0_eq (e : Option Addr) (from0 term : Int) (granted : Bool) (w : World)   (R : Bool → World → Prop) (sB1 : Option Addr → Int → Int → Bool → Bool → World → Prop) :
    (
  electm_Elect_peer.Call e from0 w fun r13 w1 =>
  Bm (!r13) (
    sB1 e from0 term granted true w1) (
    sB1 e from0 term granted (decide (term > (72057594037927936 : Int))) w1)) = kstep Tryz.prog 73 Tryz.f121.results.toList (Tryz.f121.body.getD .skip) (electm_Elect_GotVote.RV R) (kvc Tryz.prog 73 Tryz.f121.results.toList (Tryz.f121.body.getD .skip) (electm_Elect_GotVote.RV R) [([(0, [1, 0, 1]), (0, [1, 1])], fun σ w => dP (slotOf σ 0) fun e_ => dI .i64 (slotOf σ 1) fun from0_ => dI .i64 (slotOf σ 2) fun term_ => dB (slotOf σ 3) fun granted_ => dB (slotOf σ 18) fun t18_ => sB1 e_ from0_ term_ granted_ t18_ w)] 2000) [(0, [])] [(0, .pointer e), (1, .int .i64 from0), (2, .int .i64 term), (3, .bool granted)] w := by kernel_rfl
theorem electm_Elect_GotVote.B0_sound {R : Bool → World → Prop}  (e : Option Addr) (from0 term : Int) (granted : Bool) (w : World) (h : electm_Elect_GotVote.B0 e from0 term granted w   R) :
    KW Tryz.prog 121 73 (electm_Elect_GotVote.RV R) ([(0, [])].map (toItem (Tryz.f121.body.getD .skip))) [(0, .pointer e), (1, .int .i64 from0), (2, .int .i64 term), (3, .bool granted)] w := by
  exact block_spec Tryz.func121 Tryz.mixed (stops_cons (fun σ w h => by
      obtain ⟨e_, e0, h⟩ := dP_elim h
      obtain ⟨from0_, e1, h⟩ := dI_elim h
      obtain ⟨term_, e2, h⟩ := dI_elim h
      obtain ⟨granted_, e3, h⟩ := dB_elim h
      obtain ⟨t18_, e4, h⟩ := dB_elim h
      exact (electm_Elect_GotVote.B1_sound  e_ from0_ term_ granted_ t18_ w h).weaken (Sub.cons (Sub.cons (Sub.cons (Sub.cons (Sub.cons (Sub.nil _) e4) e3) e2) e1) e0)) stops_nil) (Eq.mp (electm_Elect_GotVote.B0_eq e from0 term granted w   R (fun e_ from0_ term_ granted_ t18_ w => electm_Elect_GotVote.B1 e_ from0_ term_ granted_ t18_ w  R)) h)
theorem electm_Elect_GotVote.sound (e : Option Addr) (from0 term : Int) (granted : Bool) (w : World) (R : Bool → World → Prop) (h : electm_Elect_GotVote.B0 e from0 term granted w R) : electm_Elect_GotVote.Call e from0 term granted w R := by
  have hc := calls_of_block (args := #[.pointer e, .int .i64 from0, .int .i64 term, .bool granted]) Tryz.func121 (body := (Tryz.f121.body.getD .skip)) (by kernel_rfl) (by kernel_rfl) (args_slot _) (electm_Elect_GotVote.B0_sound e from0 term granted w h)
  exact hc.mono fun e w' he => by
    obtain ⟨v, rfl, hv⟩ := he
    exact electm_Elect_GotVote.RV_elim hv
def rlogm_Log_Append.B2 (l : Option Addr) (e : Nat) (t31 : Bool) (w : World)   (R : Int → World → Prop) : Prop :=
  Bm t31 (
    R (6 : Int) w) (
    Pn l fun a =>
    LdP a w.drew fun x35 =>
    Pn l fun a_1 =>
    LdP a_1 w.drew fun x39 =>
    Pn x39 fun a_2 =>
    LdI .i64 (a_2.add 5) w.drew fun x42 =>
    LdI .i64 ⟨e, 0, none⟩ w.drew fun x43_0 =>
    LdS ⟨e, 1, none⟩ w.drew fun x43_1 =>
    Pn x35 fun a_3 =>
    (0 ≤ x42 ∧ x42 < ((6 : Nat) : Int)) ∧
    Sts [.int .i64 x43_0, .string x43_1] (Addr.add (a_3.add 6) (x42.toNat * 2)) 0 w.drew fun w1 =>
    Pn l fun a_4 =>
    LdP a_4 w1 fun x50 =>
    Pn x50 fun a_5 =>
    LdI .i64 (a_5.add 5) w1 fun x53 =>
    Pn x50 fun a_6 =>
    Sts [.int .i64 (IntKind.i64.wrap (x53 + (1 : Int)))] (a_6.add 5) 0 w1 fun w2 =>
    rlogm_Log_step.Call l w2 fun w3 =>
    R (0 : Int) w3)
theorem rlogm_Log_Append.B2_eq (l : Option Addr) (e : Nat) (t31 : Bool) (w : World)   (R : Int → World → Prop)  :
    (
  Bm t31 (
    R (6 : Int) w) (
    Pn l fun a =>
    LdP a w.drew fun x35 =>
    Pn l fun a_1 =>
    LdP a_1 w.drew fun x39 =>
    Pn x39 fun a_2 =>
    LdI .i64 (a_2.add 5) w.drew fun x42 =>
    LdI .i64 ⟨e, 0, none⟩ w.drew fun x43_0 =>
    LdS ⟨e, 1, none⟩ w.drew fun x43_1 =>
    Pn x35 fun a_3 =>
    (0 ≤ x42 ∧ x42 < ((6 : Nat) : Int)) ∧
    Sts [.int .i64 x43_0, .string x43_1] (Addr.add (a_3.add 6) (x42.toNat * 2)) 0 w.drew fun w1 =>
    Pn l fun a_4 =>
    LdP a_4 w1 fun x50 =>
    Pn x50 fun a_5 =>
    LdI .i64 (a_5.add 5) w1 fun x53 =>
    Pn x50 fun a_6 =>
    Sts [.int .i64 (IntKind.i64.wrap (x53 + (1 : Int)))] (a_6.add 5) 0 w1 fun w2 =>
    rlogm_Log_step.Call l w2 fun w3 =>
    R (0 : Int) w3)) = kstep Tryz.prog 59 Tryz.f122.results.toList (Tryz.f122.body.getD .skip) (rlogm_Log_Append.RV R) (kvc Tryz.prog 59 Tryz.f122.results.toList (Tryz.f122.body.getD .skip) (rlogm_Log_Append.RV R) [] 2000) [(0, [1, 1, 0, 1]), (0, [1, 1, 1])] [(0, .pointer l), (3, .pointer (some ⟨e, 0, none⟩)), (31, .bool t31)] w := by kernel_rfl
theorem rlogm_Log_Append.B2_sound {R : Int → World → Prop}  (l : Option Addr) (e : Nat) (t31 : Bool) (w : World) (h : rlogm_Log_Append.B2 l e t31 w   R) :
    KW Tryz.prog 122 59 (rlogm_Log_Append.RV R) ([(0, [1, 1, 0, 1]), (0, [1, 1, 1])].map (toItem (Tryz.f122.body.getD .skip))) [(0, .pointer l), (3, .pointer (some ⟨e, 0, none⟩)), (31, .bool t31)] w := by
  exact block_spec Tryz.func122 Tryz.mixed stops_nil (Eq.mp (rlogm_Log_Append.B2_eq l e t31 w   R ) h)
def rlogm_Log_Append.B1 (l : Option Addr) (e : Nat) (t18 : Bool) (w : World)   (R : Int → World → Prop) : Prop :=
  Bm t18 (
    R (4 : Int) w) (
    Pn l fun a =>
    LdP a w fun x22 =>
    Pn x22 fun a_1 =>
    LdI .i64 (a_1.add 5) w fun x25 =>
    Bm (decide (x25 ≥ (6 : Int))) (
      rlogm_Log_Append.B2 l e true w  R) (
      rlogm_Log_Last.Call l w fun r29 w1 =>
      rlogm_Log_Append.B2 l e (decide (r29 ≥ (72057594037927936 : Int))) w1  R))
theorem rlogm_Log_Append.B1_eq (l : Option Addr) (e : Nat) (t18 : Bool) (w : World)   (R : Int → World → Prop) (sB2 : Option Addr → Nat → Bool → World → Prop) :
    (
  Bm t18 (
    R (4 : Int) w) (
    Pn l fun a =>
    LdP a w fun x22 =>
    Pn x22 fun a_1 =>
    LdI .i64 (a_1.add 5) w fun x25 =>
    Bm (decide (x25 ≥ (6 : Int))) (
      sB2 l e true w) (
      rlogm_Log_Last.Call l w fun r29 w1 =>
      sB2 l e (decide (r29 ≥ (72057594037927936 : Int))) w1))) = kstep Tryz.prog 59 Tryz.f122.results.toList (Tryz.f122.body.getD .skip) (rlogm_Log_Append.RV R) (kvc Tryz.prog 59 Tryz.f122.results.toList (Tryz.f122.body.getD .skip) (rlogm_Log_Append.RV R) [([(0, [1, 1, 0, 1]), (0, [1, 1, 1])], fun σ w => dP (slotOf σ 0) fun l_ => dK (slotOf σ 3) fun e_ => dB (slotOf σ 31) fun t31_ => sB2 l_ e_ t31_ w)] 2000) [(0, [1, 0, 1]), (0, [1, 1])] [(0, .pointer l), (3, .pointer (some ⟨e, 0, none⟩)), (18, .bool t18)] w := by kernel_rfl
theorem rlogm_Log_Append.B1_sound {R : Int → World → Prop}  (l : Option Addr) (e : Nat) (t18 : Bool) (w : World) (h : rlogm_Log_Append.B1 l e t18 w   R) :
    KW Tryz.prog 122 59 (rlogm_Log_Append.RV R) ([(0, [1, 0, 1]), (0, [1, 1])].map (toItem (Tryz.f122.body.getD .skip))) [(0, .pointer l), (3, .pointer (some ⟨e, 0, none⟩)), (18, .bool t18)] w := by
  exact block_spec Tryz.func122 Tryz.mixed (stops_cons (fun σ w h => by
      obtain ⟨l_, e0, h⟩ := dP_elim h
      obtain ⟨e_, e1, h⟩ := dK_elim h
      obtain ⟨t31_, e2, h⟩ := dB_elim h
      exact (rlogm_Log_Append.B2_sound  l_ e_ t31_ w h).weaken (Sub.cons (Sub.cons (Sub.cons (Sub.nil _) e2) e1) e0)) stops_nil) (Eq.mp (rlogm_Log_Append.B1_eq l e t18 w   R (fun l_ e_ t31_ w => rlogm_Log_Append.B2 l_ e_ t31_ w  R)) h)
def rlogm_Log_Append.B0 (l : Option Addr) (e_0 : Int) (e_1 : ByteArray) (w : World)   (R : Int → World → Prop) : Prop :=
  New (.cells #[.int .i64 e_0, .string e_1] 103) w fun e_ w1 =>
  LdI .i64 ⟨e_, 0, none⟩ w1 fun x6 =>
  Bm (decide (x6 < (0 : Int))) (
    rlogm_Log_Append.B1 l e_ true w1  R) (
    LdI .i64 ⟨e_, 0, none⟩ w1 fun x10 =>
    Bm (decide (x10 > (72057594037927936 : Int))) (
      rlogm_Log_Append.B1 l e_ true w1  R) (
      LdS ⟨e_, 1, none⟩ w1 fun x15 =>
      rlogm_Log_Append.B1 l e_ (decide (((x15.size : Nat) : Int) > (24 : Int))) w1  R))
theorem rlogm_Log_Append.B0_eq (l : Option Addr) (e_0 : Int) (e_1 : ByteArray) (w : World)   (R : Int → World → Prop) (sB1 : Option Addr → Nat → Bool → World → Prop) :
    (
  New (.cells #[.int .i64 e_0, .string e_1] 103) w fun e_ w1 =>
  LdI .i64 ⟨e_, 0, none⟩ w1 fun x6 =>
  Bm (decide (x6 < (0 : Int))) (
    sB1 l e_ true w1) (
    LdI .i64 ⟨e_, 0, none⟩ w1 fun x10 =>
    Bm (decide (x10 > (72057594037927936 : Int))) (
      sB1 l e_ true w1) (
      LdS ⟨e_, 1, none⟩ w1 fun x15 =>
      sB1 l e_ (decide (((x15.size : Nat) : Int) > (24 : Int))) w1))) = kstep Tryz.prog 59 Tryz.f122.results.toList (Tryz.f122.body.getD .skip) (rlogm_Log_Append.RV R) (kvc Tryz.prog 59 Tryz.f122.results.toList (Tryz.f122.body.getD .skip) (rlogm_Log_Append.RV R) [([(0, [1, 0, 1]), (0, [1, 1])], fun σ w => dP (slotOf σ 0) fun l_ => dK (slotOf σ 3) fun e_ => dB (slotOf σ 18) fun t18_ => sB1 l_ e_ t18_ w)] 2000) [(0, [])] [(0, .pointer l), (1, .agg #[.int .i64 e_0, .string e_1])] w := by kernel_rfl
theorem rlogm_Log_Append.B0_sound {R : Int → World → Prop}  (l : Option Addr) (e_0 : Int) (e_1 : ByteArray) (w : World) (h : rlogm_Log_Append.B0 l e_0 e_1 w   R) :
    KW Tryz.prog 122 59 (rlogm_Log_Append.RV R) ([(0, [])].map (toItem (Tryz.f122.body.getD .skip))) [(0, .pointer l), (1, .agg #[.int .i64 e_0, .string e_1])] w := by
  exact block_spec Tryz.func122 Tryz.mixed (stops_cons (fun σ w h => by
      obtain ⟨l_, e0, h⟩ := dP_elim h
      obtain ⟨e_, e1, h⟩ := dK_elim h
      obtain ⟨t18_, e2, h⟩ := dB_elim h
      exact (rlogm_Log_Append.B1_sound  l_ e_ t18_ w h).weaken (Sub.cons (Sub.cons (Sub.cons (Sub.nil _) e2) e1) e0)) stops_nil) (Eq.mp (rlogm_Log_Append.B0_eq l e_0 e_1 w   R (fun l_ e_ t18_ w => rlogm_Log_Append.B1 l_ e_ t18_ w  R)) h)
theorem rlogm_Log_Append.sound (l : Option Addr) (e_0 : Int) (e_1 : ByteArray) (w : World) (R : Int → World → Prop) (h : rlogm_Log_Append.B0 l e_0 e_1 w R) : rlogm_Log_Append.Call l e_0 e_1 w R := by
  have hc := calls_of_block (args := #[.pointer l, .agg #[.int .i64 e_0, .string e_1]]) Tryz.func122 (body := (Tryz.f122.body.getD .skip)) (by kernel_rfl) (by kernel_rfl) (args_slot _) (rlogm_Log_Append.B0_sound l e_0 e_1 w h)
  exact hc.mono fun e w' he => by
    obtain ⟨v, rfl, hv⟩ := he
    exact rlogm_Log_Append.RV_elim hv
end Go.Proofs.Qxb6500433aGreat
