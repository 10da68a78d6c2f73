import Derived.Test.Qxb6500430aGreatSig
set_option maxRecDepth 100000
set_option linter.unusedVariables false
open Go.Vc
namespace Go.Proofs.Qxb6500430aGreat
def rlog_Log_SetTerm.B1 (l : Option Addr) (term vote : Int) (t21 : Bool) (w : World)   (R : Int → World → Prop) : Prop :=
  Bm t21 (
    R (1 : Int) w) (
    Pn l fun a =>
    LdP a w fun x25 =>
    store_Store_SetMeta.Call x25 term vote w fun r28 w1 =>
    Bm (r28 != (0 : Int)) (
      R r28 w1) (
      Pn l fun a_1 =>
      Sts [.int .i64 term] (a_1.add 1) 0 w1 fun w2 =>
      Pn l fun a_2 =>
      Sts [.int .i64 vote] (a_2.add 2) 0 w2 fun w3 =>
      R (0 : Int) w3))
theorem rlog_Log_SetTerm.B1_eq (l : Option Addr) (term vote : Int) (t21 : Bool) (w : World)   (R : Int → World → Prop)  :
    (
  Bm t21 (
    R (1 : Int) w) (
    Pn l fun a =>
    LdP a w fun x25 =>
    store_Store_SetMeta.Call x25 term vote w fun r28 w1 =>
    Bm (r28 != (0 : Int)) (
      R r28 w1) (
      Pn l fun a_1 =>
      Sts [.int .i64 term] (a_1.add 1) 0 w1 fun w2 =>
      Pn l fun a_2 =>
      Sts [.int .i64 vote] (a_2.add 2) 0 w2 fun w3 =>
      R (0 : Int) w3))) = kstep Tryz.prog 40 Tryz.f220.results.toList (Tryz.f220.body.getD .skip) (rlog_Log_SetTerm.RV R) (kvc Tryz.prog 40 Tryz.f220.results.toList (Tryz.f220.body.getD .skip) (rlog_Log_SetTerm.RV R) [] 2000) [(0, [1, 0, 1]), (0, [1, 1])] [(0, .pointer l), (1, .int .i64 term), (2, .int .i64 vote), (21, .bool t21)] w := by kernel_rfl
theorem rlog_Log_SetTerm.B1_sound {R : Int → World → Prop}  (l : Option Addr) (term vote : Int) (t21 : Bool) (w : World) (h : rlog_Log_SetTerm.B1 l term vote t21 w   R) :
    KW Tryz.prog 220 40 (rlog_Log_SetTerm.RV R) ([(0, [1, 0, 1]), (0, [1, 1])].map (toItem (Tryz.f220.body.getD .skip))) [(0, .pointer l), (1, .int .i64 term), (2, .int .i64 vote), (21, .bool t21)] w := by
  exact block_spec Tryz.func220 Tryz.mixed stops_nil (Eq.mp (rlog_Log_SetTerm.B1_eq l term vote t21 w   R ) h)
def rlog_Log_SetTerm.B0 (l : Option Addr) (term vote : Int) (w : World)   (R : Int → World → Prop) : Prop :=
  Bm (decide (term < (0 : Int))) (
    rlog_Log_SetTerm.B1 l term vote true w  R) (
    Bm (decide (term > (72057594037927936 : Int))) (
      rlog_Log_SetTerm.B1 l term vote true w  R) (
      Bm (decide (vote < (-1 : Int))) (
        rlog_Log_SetTerm.B1 l term vote true w  R) (
        rlog_Log_SetTerm.B1 l term vote (decide (vote ≥ (3 : Int))) w  R)))
theorem rlog_Log_SetTerm.B0_eq (l : Option Addr) (term vote : Int) (w : World)   (R : Int → World → Prop) (sB1 : Option Addr → Int → Int → Bool → World → Prop) :
    (
  Bm (decide (term < (0 : Int))) (
    sB1 l term vote true w) (
    Bm (decide (term > (72057594037927936 : Int))) (
      sB1 l term vote true w) (
      Bm (decide (vote < (-1 : Int))) (
        sB1 l term vote true w) (
        sB1 l term vote (decide (vote ≥ (3 : Int))) w)))) = kstep Tryz.prog 40 Tryz.f220.results.toList (Tryz.f220.body.getD .skip) (rlog_Log_SetTerm.RV R) (kvc Tryz.prog 40 Tryz.f220.results.toList (Tryz.f220.body.getD .skip) (rlog_Log_SetTerm.RV R) [([(0, [1, 0, 1]), (0, [1, 1])], fun σ w => dP (slotOf σ 0) fun l_ => dI .i64 (slotOf σ 1) fun term_ => dI .i64 (slotOf σ 2) fun vote_ => dB (slotOf σ 21) fun t21_ => sB1 l_ term_ vote_ t21_ w)] 2000) [(0, [])] [(0, .pointer l), (1, .int .i64 term), (2, .int .i64 vote)] w := by kernel_rfl
theorem rlog_Log_SetTerm.B0_sound {R : Int → World → Prop}  (l : Option Addr) (term vote : Int) (w : World) (h : rlog_Log_SetTerm.B0 l term vote w   R) :
    KW Tryz.prog 220 40 (rlog_Log_SetTerm.RV R) ([(0, [])].map (toItem (Tryz.f220.body.getD .skip))) [(0, .pointer l), (1, .int .i64 term), (2, .int .i64 vote)] w := by
  exact block_spec Tryz.func220 Tryz.mixed (stops_cons (fun σ w h => by
      obtain ⟨l_, e0, h⟩ := dP_elim h
      obtain ⟨term_, e1, h⟩ := dI_elim h
      obtain ⟨vote_, e2, h⟩ := dI_elim h
      obtain ⟨t21_, e3, h⟩ := dB_elim h
      exact (rlog_Log_SetTerm.B1_sound  l_ term_ vote_ t21_ w h).weaken (Sub.cons (Sub.cons (Sub.cons (Sub.cons (Sub.nil _) e3) e2) e1) e0)) stops_nil) (Eq.mp (rlog_Log_SetTerm.B0_eq l term vote w   R (fun l_ term_ vote_ t21_ w => rlog_Log_SetTerm.B1 l_ term_ vote_ t21_ w  R)) h)
theorem rlog_Log_SetTerm.sound (l : Option Addr) (term vote : Int) (w : World) (R : Int → World → Prop) (h : rlog_Log_SetTerm.B0 l term vote w R) : rlog_Log_SetTerm.Call l term vote w R := by
  have hc := calls_of_block (args := #[.pointer l, .int .i64 term, .int .i64 vote]) Tryz.func220 (body := (Tryz.f220.body.getD .skip)) (by kernel_rfl) (by kernel_rfl) (args_slot _) (rlog_Log_SetTerm.B0_sound l term vote w h)
  exact hc.mono fun e w' he => by
    obtain ⟨v, rfl, hv⟩ := he
    exact rlog_Log_SetTerm.RV_elim hv
def sync_Sync_send.L1b (s : Option Addr) (from0 : Int) (m0 : Nat) (n k : Int) (w : World)  (N1 : Option Addr → Int → Nat → Int → Int → World → Prop) (R : World → Prop) : Prop :=
  Bm (decide (k < n)) (
    Pn s fun a =>
    LdP a w fun x105 =>
    rlog_Log_At.Call x105 (IntKind.i64.wrap (from0 + k)) w fun r109_0_0 r109_0_1 r109_1 w1 =>
    New (.cells #[.int .i64 (0 : Int), .string (ByteArray.mk #[])] 155) w1 fun e_ w2 =>
    Sts [.int .i64 r109_0_0, .string r109_0_1] ⟨e_, 0, none⟩ 0 w2 fun w3 =>
    LdL ⟨m0, 8, none⟩ w3 fun x113_b x113_l x113_c =>
    LdI .i64 ⟨e_, 0, none⟩ w3 fun x115_0 =>
    LdS ⟨e_, 1, none⟩ w3 fun x115_1 =>
    Pn x113_b fun a_1 =>
    (0 ≤ k ∧ k < ((x113_l : Nat) : Int)) ∧
    Sts [.int .i64 x115_0, .string x115_1] (Addr.add a_1 (k.toNat * 2)) 0 w3 fun w4 =>
    N1 s from0 m0 n (IntKind.i64.wrap (k + (1 : Int))) w4) (
    LdI .i64 ⟨m0, 0, none⟩ w fun x118_0 =>
    LdI .i64 ⟨m0, 1, none⟩ w fun x118_1 =>
    LdI .i64 ⟨m0, 2, none⟩ w fun x118_2 =>
    LdI .i64 ⟨m0, 3, none⟩ w fun x118_3 =>
    LdI .i64 ⟨m0, 4, none⟩ w fun x118_4 =>
    LdI .i64 ⟨m0, 5, none⟩ w fun x118_5 =>
    LdI .i64 ⟨m0, 6, none⟩ w fun x118_6 =>
    LdB ⟨m0, 7, none⟩ w fun x118_7 =>
    LdL ⟨m0, 8, none⟩ w fun x118_8_b x118_8_l x118_8_c =>
    LdS ⟨m0, 9, none⟩ w fun x118_9 =>
    sync_Sync_post.Call s x118_0 x118_1 x118_2 x118_3 x118_4 x118_5 x118_6 x118_7 x118_8_b x118_8_l x118_8_c x118_9 w fun w5 =>
    R  w5)
theorem sync_Sync_send.L1b_eq (s : Option Addr) (from0 : Int) (m0 : Nat) (n k : Int) (w : World)  (N1 : Option Addr → Int → Nat → Int → Int → World → Prop) (R : World → Prop)  :
    (
  Bm (decide (k < n)) (
    Pn s fun a =>
    LdP a w fun x105 =>
    rlog_Log_At.Call x105 (IntKind.i64.wrap (from0 + k)) w fun r109_0_0 r109_0_1 r109_1 w1 =>
    New (.cells #[.int .i64 (0 : Int), .string (ByteArray.mk #[])] 155) w1 fun e_ w2 =>
    Sts [.int .i64 r109_0_0, .string r109_0_1] ⟨e_, 0, none⟩ 0 w2 fun w3 =>
    LdL ⟨m0, 8, none⟩ w3 fun x113_b x113_l x113_c =>
    LdI .i64 ⟨e_, 0, none⟩ w3 fun x115_0 =>
    LdS ⟨e_, 1, none⟩ w3 fun x115_1 =>
    Pn x113_b fun a_1 =>
    (0 ≤ k ∧ k < ((x113_l : Nat) : Int)) ∧
    Sts [.int .i64 x115_0, .string x115_1] (Addr.add a_1 (k.toNat * 2)) 0 w3 fun w4 =>
    N1 s from0 m0 n (IntKind.i64.wrap (k + (1 : Int))) w4) (
    LdI .i64 ⟨m0, 0, none⟩ w fun x118_0 =>
    LdI .i64 ⟨m0, 1, none⟩ w fun x118_1 =>
    LdI .i64 ⟨m0, 2, none⟩ w fun x118_2 =>
    LdI .i64 ⟨m0, 3, none⟩ w fun x118_3 =>
    LdI .i64 ⟨m0, 4, none⟩ w fun x118_4 =>
    LdI .i64 ⟨m0, 5, none⟩ w fun x118_5 =>
    LdI .i64 ⟨m0, 6, none⟩ w fun x118_6 =>
    LdB ⟨m0, 7, none⟩ w fun x118_7 =>
    LdL ⟨m0, 8, none⟩ w fun x118_8_b x118_8_l x118_8_c =>
    LdS ⟨m0, 9, none⟩ w fun x118_9 =>
    sync_Sync_post.Call s x118_0 x118_1 x118_2 x118_3 x118_4 x118_5 x118_6 x118_7 x118_8_b x118_8_l x118_8_c x118_9 w fun w5 =>
    R  w5)) = kstep Tryz.prog 120 Tryz.f221.results.toList (Tryz.f221.body.getD .skip) (sync_Sync_send.RV R) (kvc Tryz.prog 120 Tryz.f221.results.toList (Tryz.f221.body.getD .skip) (sync_Sync_send.RV R) [([(0, [1, 1, 1, 1, 1, 1, 1, 1, 1, 1, 1, 1, 1, 0, 1, 0, 1, 1, 0, 0]), (2, [1, 1, 1, 1, 1, 1, 1, 1, 1, 1, 1, 1, 1, 0, 1, 0, 1, 1, 0, 0]), (1, [0]), (0, [1, 1, 1, 1, 1, 1, 1, 1, 1, 1, 1, 1, 1, 1])], fun σ w => dP (slotOf σ 0) fun s_ => dI .i64 (slotOf σ 7) fun from0_ => dK (slotOf σ 8) fun m0_ => dI .i64 (slotOf σ 11) fun n_ => dI .i64 (slotOf σ 12) fun k_ => N1 s_ from0_ m0_ n_ k_ w)] 2000) [(0, [1, 1, 1, 1, 1, 1, 1, 1, 1, 1, 1, 1, 1, 0, 1, 0, 1, 1, 0, 0]), (2, [1, 1, 1, 1, 1, 1, 1, 1, 1, 1, 1, 1, 1, 0, 1, 0, 1, 1, 0, 0]), (1, [0]), (0, [1, 1, 1, 1, 1, 1, 1, 1, 1, 1, 1, 1, 1, 1])] [(0, .pointer s), (7, .int .i64 from0), (8, .pointer (some ⟨m0, 0, none⟩)), (11, .int .i64 n), (12, .int .i64 k)] w := by kernel_rfl
theorem sync_Sync_send.L1b_sound {R : World → Prop} {N1 : Option Addr → Int → Nat → Int → Int → World → Prop} (hN1 : ∀ s from0 m0 n k w, N1 s from0 m0 n k w → KW Tryz.prog 221 120 (sync_Sync_send.RV R) ([(0, [1, 1, 1, 1, 1, 1, 1, 1, 1, 1, 1, 1, 1, 0, 1, 0, 1, 1, 0, 0]), (2, [1, 1, 1, 1, 1, 1, 1, 1, 1, 1, 1, 1, 1, 0, 1, 0, 1, 1, 0, 0]), (1, [0]), (0, [1, 1, 1, 1, 1, 1, 1, 1, 1, 1, 1, 1, 1, 1])].map (toItem (Tryz.f221.body.getD .skip))) [(0, .pointer s), (7, .int .i64 from0), (8, .pointer (some ⟨m0, 0, none⟩)), (11, .int .i64 n), (12, .int .i64 k)] w) (s : Option Addr) (from0 : Int) (m0 : Nat) (n k : Int) (w : World) (h : sync_Sync_send.L1b s from0 m0 n k w  N1 R) :
    KW Tryz.prog 221 120 (sync_Sync_send.RV R) ([(0, [1, 1, 1, 1, 1, 1, 1, 1, 1, 1, 1, 1, 1, 0, 1, 0, 1, 1, 0, 0]), (2, [1, 1, 1, 1, 1, 1, 1, 1, 1, 1, 1, 1, 1, 0, 1, 0, 1, 1, 0, 0]), (1, [0]), (0, [1, 1, 1, 1, 1, 1, 1, 1, 1, 1, 1, 1, 1, 1])].map (toItem (Tryz.f221.body.getD .skip))) [(0, .pointer s), (7, .int .i64 from0), (8, .pointer (some ⟨m0, 0, none⟩)), (11, .int .i64 n), (12, .int .i64 k)] w := by
  exact block_spec Tryz.func221 Tryz.mixed (stops_cons (fun σ w h => by
      obtain ⟨s_, e0, h⟩ := dP_elim h
      obtain ⟨from0_, e1, h⟩ := dI_elim h
      obtain ⟨m0_, e2, h⟩ := dK_elim h
      obtain ⟨n_, e3, h⟩ := dI_elim h
      obtain ⟨k_, e4, h⟩ := dI_elim h
      exact (hN1 s_ from0_ m0_ n_ k_ w h).weaken (Sub.cons (Sub.cons (Sub.cons (Sub.cons (Sub.cons (Sub.nil _) e4) e3) e2) e1) e0)) stops_nil) (Eq.mp (sync_Sync_send.L1b_eq s from0 m0 n k w  N1 R ) h)
def sync_Sync_send.L1 (s : Option Addr) (from0 : Int) (m0 : Nat) (n k : Int) (w : World)  (R : World → Prop) : Prop :=
  ∃ (I : Nat → Option Addr → Int → Nat → Int → Int → World → Prop) (m : Nat), I m s from0 m0 n k w ∧ ∀ m s from0 m0 n k w, I m s from0 m0 n k w → sync_Sync_send.L1b s from0 m0 n k w  (fun s' from0' m0' n' k' w' => ∃ m', m' < m ∧ I m' s' from0' m0' n' k' w') R
theorem sync_Sync_send.L1_sound {R : World → Prop}  (s : Option Addr) (from0 : Int) (m0 : Nat) (n k : Int) (w : World) (h : sync_Sync_send.L1 s from0 m0 n k w  R) :
    KW Tryz.prog 221 120 (sync_Sync_send.RV R) ([(0, [1, 1, 1, 1, 1, 1, 1, 1, 1, 1, 1, 1, 1, 0, 1, 0, 1, 1, 0, 0]), (2, [1, 1, 1, 1, 1, 1, 1, 1, 1, 1, 1, 1, 1, 0, 1, 0, 1, 1, 0, 0]), (1, [0]), (0, [1, 1, 1, 1, 1, 1, 1, 1, 1, 1, 1, 1, 1, 1])].map (toItem (Tryz.f221.body.getD .skip))) [(0, .pointer s), (7, .int .i64 from0), (8, .pointer (some ⟨m0, 0, none⟩)), (11, .int .i64 n), (12, .int .i64 k)] w := by
  obtain ⟨I, m, hBase, hr⟩ := h
  refine KW.loop (fun m σ w => ∃ (s : Option Addr) (from0 : Int) (m0 : Nat) (n k : Int), σ = [(0, .pointer s), (7, .int .i64 from0), (8, .pointer (some ⟨m0, 0, none⟩)), (11, .int .i64 n), (12, .int .i64 k)] ∧ I m s from0 m0 n k w) ?_ m _ w ⟨s, from0, m0, n, k, rfl, hBase⟩
  rintro m ih σ w ⟨s, from0, m0, n, k, rfl, hI⟩
  exact sync_Sync_send.L1b_sound  (N1 := fun s' from0' m0' n' k' w' => ∃ m', m' < m ∧ I m' s' from0' m0' n' k' w') (fun s' from0' m0' n' k' w' hx => by obtain ⟨m', hlt, hI'⟩ := hx; exact ih m' hlt _ w' ⟨s', from0', m0', n', k', rfl, hI'⟩) s from0 m0 n k w (hr m s from0 m0 n k w hI)
def sync_Sync_send.B1 (s : Option Addr) (from0 : Int) (m0 : Nat) (n : Int) (w : World)   (R : World → Prop) : Prop :=
  Bm (decide (n > (0 : Int))) (
    Make 155 (.agg #[.int .i64 (0 : Int), .string (ByteArray.mk #[])]) 2 24 n n w fun b94 w1 =>
    Sts [.slice (some ⟨b94, 0, none⟩) n.toNat n.toNat] ⟨m0, 8, none⟩ 0 w1 fun w2 =>
    sync_Sync_send.L1 s from0 m0 n (0 : Int) w2  R) (
    LdI .i64 ⟨m0, 0, none⟩ w fun x118_0 =>
    LdI .i64 ⟨m0, 1, none⟩ w fun x118_1 =>
    LdI .i64 ⟨m0, 2, none⟩ w fun x118_2 =>
    LdI .i64 ⟨m0, 3, none⟩ w fun x118_3 =>
    LdI .i64 ⟨m0, 4, none⟩ w fun x118_4 =>
    LdI .i64 ⟨m0, 5, none⟩ w fun x118_5 =>
    LdI .i64 ⟨m0, 6, none⟩ w fun x118_6 =>
    LdB ⟨m0, 7, none⟩ w fun x118_7 =>
    LdL ⟨m0, 8, none⟩ w fun x118_8_b x118_8_l x118_8_c =>
    LdS ⟨m0, 9, none⟩ w fun x118_9 =>
    sync_Sync_post.Call s x118_0 x118_1 x118_2 x118_3 x118_4 x118_5 x118_6 x118_7 x118_8_b x118_8_l x118_8_c x118_9 w fun w3 =>
    R  w3)
theorem sync_Sync_send.B1_eq (s : Option Addr) (from0 : Int) (m0 : Nat) (n : Int) (w : World)   (R : World → Prop) (sL1 : Option Addr → Int → Nat → Int → Int → World → Prop) :
    (
  Bm (decide (n > (0 : Int))) (
    Make 155 (.agg #[.int .i64 (0 : Int), .string (ByteArray.mk #[])]) 2 24 n n w fun b94 w1 =>
    Sts [.slice (some ⟨b94, 0, none⟩) n.toNat n.toNat] ⟨m0, 8, none⟩ 0 w1 fun w2 =>
    sL1 s from0 m0 n (0 : Int) w2) (
    LdI .i64 ⟨m0, 0, none⟩ w fun x118_0 =>
    LdI .i64 ⟨m0, 1, none⟩ w fun x118_1 =>
    LdI .i64 ⟨m0, 2, none⟩ w fun x118_2 =>
    LdI .i64 ⟨m0, 3, none⟩ w fun x118_3 =>
    LdI .i64 ⟨m0, 4, none⟩ w fun x118_4 =>
    LdI .i64 ⟨m0, 5, none⟩ w fun x118_5 =>
    LdI .i64 ⟨m0, 6, none⟩ w fun x118_6 =>
    LdB ⟨m0, 7, none⟩ w fun x118_7 =>
    LdL ⟨m0, 8, none⟩ w fun x118_8_b x118_8_l x118_8_c =>
    LdS ⟨m0, 9, none⟩ w fun x118_9 =>
    sync_Sync_post.Call s x118_0 x118_1 x118_2 x118_3 x118_4 x118_5 x118_6 x118_7 x118_8_b x118_8_l x118_8_c x118_9 w fun w3 =>
    R  w3)) = kstep Tryz.prog 120 Tryz.f221.results.toList (Tryz.f221.body.getD .skip) (sync_Sync_send.RV R) (kvc Tryz.prog 120 Tryz.f221.results.toList (Tryz.f221.body.getD .skip) (sync_Sync_send.RV R) [([(0, [1, 1, 1, 1, 1, 1, 1, 1, 1, 1, 1, 1, 1, 0, 1, 0, 1, 1, 0, 0]), (2, [1, 1, 1, 1, 1, 1, 1, 1, 1, 1, 1, 1, 1, 0, 1, 0, 1, 1, 0, 0]), (1, [0]), (0, [1, 1, 1, 1, 1, 1, 1, 1, 1, 1, 1, 1, 1, 1])], fun σ w => dP (slotOf σ 0) fun s_ => dI .i64 (slotOf σ 7) fun from0_ => dK (slotOf σ 8) fun m0_ => dI .i64 (slotOf σ 11) fun n_ => dI .i64 (slotOf σ 12) fun k_ => sL1 s_ from0_ m0_ n_ k_ w)] 2000) [(0, [1, 1, 1, 1, 1, 1, 1, 1, 1, 1, 1, 1, 1])] [(0, .pointer s), (7, .int .i64 from0), (8, .pointer (some ⟨m0, 0, none⟩)), (11, .int .i64 n)] w := by kernel_rfl
theorem sync_Sync_send.B1_sound {R : World → Prop}  (s : Option Addr) (from0 : Int) (m0 : Nat) (n : Int) (w : World) (h : sync_Sync_send.B1 s from0 m0 n w   R) :
    KW Tryz.prog 221 120 (sync_Sync_send.RV R) ([(0, [1, 1, 1, 1, 1, 1, 1, 1, 1, 1, 1, 1, 1])].map (toItem (Tryz.f221.body.getD .skip))) [(0, .pointer s), (7, .int .i64 from0), (8, .pointer (some ⟨m0, 0, none⟩)), (11, .int .i64 n)] w := by
  exact block_spec Tryz.func221 Tryz.mixed (stops_cons (fun σ w h => by
      obtain ⟨s_, e0, h⟩ := dP_elim h
      obtain ⟨from0_, e1, h⟩ := dI_elim h
      obtain ⟨m0_, e2, h⟩ := dK_elim h
      obtain ⟨n_, e3, h⟩ := dI_elim h
      obtain ⟨k_, e4, h⟩ := dI_elim h
      exact (sync_Sync_send.L1_sound  s_ from0_ m0_ n_ k_ w h).weaken (Sub.cons (Sub.cons (Sub.cons (Sub.cons (Sub.cons (Sub.nil _) e4) e3) e2) e1) e0)) stops_nil) (Eq.mp (sync_Sync_send.B1_eq s from0 m0 n w   R (fun s_ from0_ m0_ n_ k_ w => sync_Sync_send.L1 s_ from0_ m0_ n_ k_ w  R)) h)
def sync_Sync_send.B0 (s : Option Addr) (p : Int) (w : World)   (R : World → Prop) : Prop :=
  Pn s fun a =>
  LdP (a.add 1) w fun x18 =>
  elect_Elect_Id.Call x18 w fun r19 w1 =>
  Pn s fun a_1 =>
  LdP (a_1.add 1) w1 fun x23 =>
  elect_Elect_Term.Call x23 w1 fun r24 w2 =>
  Pn s fun a_2 =>
  LdP a_2 w2 fun x28 =>
  rlog_Log_Base.Call x28 w2 fun r29 w3 =>
  Pn s fun a_3 =>
  (0 ≤ p ∧ p < ((3 : Nat) : Int)) ∧
  LdI .i64 (Addr.add (a_3.add 3) (p.toNat * 1)) w3 fun x35 =>
  New (.cells #[.int .i64 (0 : Int), .int .i64 (0 : Int), .int .i64 (0 : Int), .int .i64 (0 : Int), .int .i64 (0 : Int), .int .i64 (0 : Int), .int .i64 (0 : Int), .bool false, .slice none 0 0, .string (ByteArray.mk #[])] 101) w3 fun m0_ w4 =>
  Sts [.int .i64 (0 : Int), .int .i64 r19, .int .i64 p, .int .i64 r24, .int .i64 (0 : Int), .int .i64 (0 : Int), .int .i64 (0 : Int), .bool false, .slice none 0 0, .string (ByteArray.mk #[])] ⟨m0_, 0, none⟩ 0 w4 fun w5 =>
  Bm (decide (x35 ≤ r29)) (
    Sts [.int .i64 (5 : Int)] ⟨m0_, 0, none⟩ 0 w5 fun w6 =>
    Sts [.int .i64 r29] ⟨m0_, 4, none⟩ 0 w6 fun w7 =>
    Pn s fun a_4 =>
    LdP a_4 w7 fun x49 =>
    rlog_Log_BaseTerm.Call x49 w7 fun r50 w8 =>
    Sts [.int .i64 r50] ⟨m0_, 5, none⟩ 0 w8 fun w9 =>
    Pn s fun a_5 =>
    LdP a_5 w9 fun x55 =>
    rlog_Log_Snap.Call x55 w9 fun r56 w10 =>
    Sts [.string r56] ⟨m0_, 9, none⟩ 0 w10 fun w11 =>
    LdI .i64 ⟨m0_, 0, none⟩ w11 fun x59_0 =>
    LdI .i64 ⟨m0_, 1, none⟩ w11 fun x59_1 =>
    LdI .i64 ⟨m0_, 2, none⟩ w11 fun x59_2 =>
    LdI .i64 ⟨m0_, 3, none⟩ w11 fun x59_3 =>
    LdI .i64 ⟨m0_, 4, none⟩ w11 fun x59_4 =>
    LdI .i64 ⟨m0_, 5, none⟩ w11 fun x59_5 =>
    LdI .i64 ⟨m0_, 6, none⟩ w11 fun x59_6 =>
    LdB ⟨m0_, 7, none⟩ w11 fun x59_7 =>
    LdL ⟨m0_, 8, none⟩ w11 fun x59_8_b x59_8_l x59_8_c =>
    LdS ⟨m0_, 9, none⟩ w11 fun x59_9 =>
    sync_Sync_post.Call s x59_0 x59_1 x59_2 x59_3 x59_4 x59_5 x59_6 x59_7 x59_8_b x59_8_l x59_8_c x59_9 w11 fun w12 =>
    R  w12) (
    Sts [.int .i64 (3 : Int)] ⟨m0_, 0, none⟩ 0 w5 fun w13 =>
    Sts [.int .i64 (IntKind.i64.wrap (x35 - (1 : Int)))] ⟨m0_, 4, none⟩ 0 w13 fun w14 =>
    Pn s fun a_6 =>
    LdI .i64 (a_6.add 2) w14 fun x68 =>
    Sts [.int .i64 x68] ⟨m0_, 6, none⟩ 0 w14 fun w15 =>
    Pn s fun a_7 =>
    LdP a_7 w15 fun x74 =>
    rlog_Log_TermAt.Call x74 (IntKind.i64.wrap (x35 - (1 : Int))) w15 fun r77_0 r77_1 w16 =>
    Sts [.int .i64 r77_0] ⟨m0_, 5, none⟩ 0 w16 fun w17 =>
    Pn s fun a_8 =>
    LdI .i64 (a_8.add 9) w17 fun x85 =>
    Bm (decide ((IntKind.i64.wrap ((IntKind.i64.wrap (x85 - x35)) + (1 : Int))) > (2 : Int))) (
      sync_Sync_send.B1 s x35 m0_ (2 : Int) w17  R) (
      sync_Sync_send.B1 s x35 m0_ (IntKind.i64.wrap ((IntKind.i64.wrap (x85 - x35)) + (1 : Int))) w17  R))
theorem sync_Sync_send.B0_eq (s : Option Addr) (p : Int) (w : World)   (R : World → Prop) (sB1 : Option Addr → Int → Nat → Int → World → Prop) :
    (
  Pn s fun a =>
  LdP (a.add 1) w fun x18 =>
  elect_Elect_Id.Call x18 w fun r19 w1 =>
  Pn s fun a_1 =>
  LdP (a_1.add 1) w1 fun x23 =>
  elect_Elect_Term.Call x23 w1 fun r24 w2 =>
  Pn s fun a_2 =>
  LdP a_2 w2 fun x28 =>
  rlog_Log_Base.Call x28 w2 fun r29 w3 =>
  Pn s fun a_3 =>
  (0 ≤ p ∧ p < ((3 : Nat) : Int)) ∧
  LdI .i64 (Addr.add (a_3.add 3) (p.toNat * 1)) w3 fun x35 =>
  New (.cells #[.int .i64 (0 : Int), .int .i64 (0 : Int), .int .i64 (0 : Int), .int .i64 (0 : Int), .int .i64 (0 : Int), .int .i64 (0 : Int), .int .i64 (0 : Int), .bool false, .slice none 0 0, .string (ByteArray.mk #[])] 101) w3 fun m0_ w4 =>
  Sts [.int .i64 (0 : Int), .int .i64 r19, .int .i64 p, .int .i64 r24, .int .i64 (0 : Int), .int .i64 (0 : Int), .int .i64 (0 : Int), .bool false, .slice none 0 0, .string (ByteArray.mk #[])] ⟨m0_, 0, none⟩ 0 w4 fun w5 =>
  Bm (decide (x35 ≤ r29)) (
    Sts [.int .i64 (5 : Int)] ⟨m0_, 0, none⟩ 0 w5 fun w6 =>
    Sts [.int .i64 r29] ⟨m0_, 4, none⟩ 0 w6 fun w7 =>
    Pn s fun a_4 =>
    LdP a_4 w7 fun x49 =>
    rlog_Log_BaseTerm.Call x49 w7 fun r50 w8 =>
    Sts [.int .i64 r50] ⟨m0_, 5, none⟩ 0 w8 fun w9 =>
    Pn s fun a_5 =>
    LdP a_5 w9 fun x55 =>
    rlog_Log_Snap.Call x55 w9 fun r56 w10 =>
    Sts [.string r56] ⟨m0_, 9, none⟩ 0 w10 fun w11 =>
    LdI .i64 ⟨m0_, 0, none⟩ w11 fun x59_0 =>
    LdI .i64 ⟨m0_, 1, none⟩ w11 fun x59_1 =>
    LdI .i64 ⟨m0_, 2, none⟩ w11 fun x59_2 =>
    LdI .i64 ⟨m0_, 3, none⟩ w11 fun x59_3 =>
    LdI .i64 ⟨m0_, 4, none⟩ w11 fun x59_4 =>
    LdI .i64 ⟨m0_, 5, none⟩ w11 fun x59_5 =>
    LdI .i64 ⟨m0_, 6, none⟩ w11 fun x59_6 =>
    LdB ⟨m0_, 7, none⟩ w11 fun x59_7 =>
    LdL ⟨m0_, 8, none⟩ w11 fun x59_8_b x59_8_l x59_8_c =>
    LdS ⟨m0_, 9, none⟩ w11 fun x59_9 =>
    sync_Sync_post.Call s x59_0 x59_1 x59_2 x59_3 x59_4 x59_5 x59_6 x59_7 x59_8_b x59_8_l x59_8_c x59_9 w11 fun w12 =>
    R  w12) (
    Sts [.int .i64 (3 : Int)] ⟨m0_, 0, none⟩ 0 w5 fun w13 =>
    Sts [.int .i64 (IntKind.i64.wrap (x35 - (1 : Int)))] ⟨m0_, 4, none⟩ 0 w13 fun w14 =>
    Pn s fun a_6 =>
    LdI .i64 (a_6.add 2) w14 fun x68 =>
    Sts [.int .i64 x68] ⟨m0_, 6, none⟩ 0 w14 fun w15 =>
    Pn s fun a_7 =>
    LdP a_7 w15 fun x74 =>
    rlog_Log_TermAt.Call x74 (IntKind.i64.wrap (x35 - (1 : Int))) w15 fun r77_0 r77_1 w16 =>
    Sts [.int .i64 r77_0] ⟨m0_, 5, none⟩ 0 w16 fun w17 =>
    Pn s fun a_8 =>
    LdI .i64 (a_8.add 9) w17 fun x85 =>
    Bm (decide ((IntKind.i64.wrap ((IntKind.i64.wrap (x85 - x35)) + (1 : Int))) > (2 : Int))) (
      sB1 s x35 m0_ (2 : Int) w17) (
      sB1 s x35 m0_ (IntKind.i64.wrap ((IntKind.i64.wrap (x85 - x35)) + (1 : Int))) w17))) = kstep Tryz.prog 120 Tryz.f221.results.toList (Tryz.f221.body.getD .skip) (sync_Sync_send.RV R) (kvc Tryz.prog 120 Tryz.f221.results.toList (Tryz.f221.body.getD .skip) (sync_Sync_send.RV R) [([(0, [1, 1, 1, 1, 1, 1, 1, 1, 1, 1, 1, 1, 1])], fun σ w => dP (slotOf σ 0) fun s_ => dI .i64 (slotOf σ 7) fun from0_ => dK (slotOf σ 8) fun m0_ => dI .i64 (slotOf σ 11) fun n_ => sB1 s_ from0_ m0_ n_ w)] 2000) [(0, [])] [(0, .pointer s), (1, .int .i64 p)] w := by kernel_rfl
theorem sync_Sync_send.B0_sound {R : World → Prop}  (s : Option Addr) (p : Int) (w : World) (h : sync_Sync_send.B0 s p w   R) :
    KW Tryz.prog 221 120 (sync_Sync_send.RV R) ([(0, [])].map (toItem (Tryz.f221.body.getD .skip))) [(0, .pointer s), (1, .int .i64 p)] w := by
  exact block_spec Tryz.func221 Tryz.mixed (stops_cons (fun σ w h => by
      obtain ⟨s_, e0, h⟩ := dP_elim h
      obtain ⟨from0_, e1, h⟩ := dI_elim h
      obtain ⟨m0_, e2, h⟩ := dK_elim h
      obtain ⟨n_, e3, h⟩ := dI_elim h
      exact (sync_Sync_send.B1_sound  s_ from0_ m0_ n_ w h).weaken (Sub.cons (Sub.cons (Sub.cons (Sub.cons (Sub.nil _) e3) e2) e1) e0)) stops_nil) (Eq.mp (sync_Sync_send.B0_eq s p w   R (fun s_ from0_ m0_ n_ w => sync_Sync_send.B1 s_ from0_ m0_ n_ w  R)) h)
theorem sync_Sync_send.sound (s : Option Addr) (p : Int) (w : World) (R : World → Prop) (h : sync_Sync_send.B0 s p w R) : sync_Sync_send.Call s p w R := by
  have hc := calls_of_block (args := #[.pointer s, .int .i64 p]) Tryz.func221 (body := (Tryz.f221.body.getD .skip)) (by kernel_rfl) (by kernel_rfl) (args_slot _) (sync_Sync_send.B0_sound s p w h)
  exact hc.mono fun e w' he => by
    obtain ⟨v, rfl, hv⟩ := he
    exact sync_Sync_send.RV_elim hv
def kv_KV_Snapshot.L2b (k b_b : Option Addr) (b_l b_c : Nat) (c : Int) (w : World)  (N2 : Option Addr → Option Addr → Nat → Nat → Int → World → Prop) (R : ByteArray → World → Prop) : Prop :=
  Bm (decide (c < (3 : Int))) (
    Pn k fun a =>
    (0 ≤ c ∧ c < ((3 : Nat) : Int)) ∧
    LdI .i64 (Addr.add (a.add 66) (c.toNat * 6)) w fun x66_0 =>
    LdI .i64 ((Addr.add (a.add 66) (c.toNat * 6)).add 1) w fun x66_1 =>
    LdI .i64 ((Addr.add (a.add 66) (c.toNat * 6)).add 2) w fun x66_2 =>
    LdI .u8 ((Addr.add (a.add 66) (c.toNat * 6)).add 3) w fun x66_3 =>
    LdI .u8 ((Addr.add (a.add 66) (c.toNat * 6)).add 4) w fun x66_4 =>
    LdI .u8 ((Addr.add (a.add 66) (c.toNat * 6)).add 5) w fun x66_5 =>
    kv_ansOf.Call x66_0 x66_1 x66_2 x66_3 x66_4 x66_5 w fun r67_0 r67_1 w1 =>
    New (.cells #[.int .i64 (0 : Int), .string (ByteArray.mk #[])] 93) w1 fun a_ w2 =>
    Sts [.int .i64 r67_0, .string r67_1] ⟨a_, 0, none⟩ 0 w2 fun w3 =>
    Pn k fun a_1 =>
    (0 ≤ c ∧ c < ((3 : Nat) : Int)) ∧
    LdI .i64 (Addr.add (a_1.add 66) (c.toNat * 6)) w3 fun x75 =>
    api_PutU64.Call b_b b_l b_c x75 w3 fun r76_b r76_l r76_c w4 =>
    LdI .i64 ⟨a_, 0, none⟩ w4 fun x79 =>
    New (.cells #[.int .u8 (IntKind.u8.wrap x79)] 5) w4 fun b81 w5 =>
    Append 5 (.int .u8 (0 : Int)) 1 1 r76_b r76_l r76_c (some ⟨b81, 0, none⟩) 1 w5 fun b82 c82 w6 =>
    LdS ⟨a_, 1, none⟩ w6 fun x85 =>
    kv_appendStr.Call b82 (r76_l + 1) c82 x85 w6 fun r86_b r86_l r86_c w7 =>
    N2 k r86_b r86_l r86_c (IntKind.i64.wrap (c + (1 : Int))) w7) (
    ToStr b_b b_l w fun s88 =>
    R s88 w)
theorem kv_KV_Snapshot.L2b_eq (k b_b : Option Addr) (b_l b_c : Nat) (c : Int) (w : World)  (N2 : Option Addr → Option Addr → Nat → Nat → Int → World → Prop) (R : ByteArray → World → Prop)  :
    (
  Bm (decide (c < (3 : Int))) (
    Pn k fun a =>
    (0 ≤ c ∧ c < ((3 : Nat) : Int)) ∧
    LdI .i64 (Addr.add (a.add 66) (c.toNat * 6)) w fun x66_0 =>
    LdI .i64 ((Addr.add (a.add 66) (c.toNat * 6)).add 1) w fun x66_1 =>
    LdI .i64 ((Addr.add (a.add 66) (c.toNat * 6)).add 2) w fun x66_2 =>
    LdI .u8 ((Addr.add (a.add 66) (c.toNat * 6)).add 3) w fun x66_3 =>
    LdI .u8 ((Addr.add (a.add 66) (c.toNat * 6)).add 4) w fun x66_4 =>
    LdI .u8 ((Addr.add (a.add 66) (c.toNat * 6)).add 5) w fun x66_5 =>
    kv_ansOf.Call x66_0 x66_1 x66_2 x66_3 x66_4 x66_5 w fun r67_0 r67_1 w1 =>
    New (.cells #[.int .i64 (0 : Int), .string (ByteArray.mk #[])] 93) w1 fun a_ w2 =>
    Sts [.int .i64 r67_0, .string r67_1] ⟨a_, 0, none⟩ 0 w2 fun w3 =>
    Pn k fun a_1 =>
    (0 ≤ c ∧ c < ((3 : Nat) : Int)) ∧
    LdI .i64 (Addr.add (a_1.add 66) (c.toNat * 6)) w3 fun x75 =>
    api_PutU64.Call b_b b_l b_c x75 w3 fun r76_b r76_l r76_c w4 =>
    LdI .i64 ⟨a_, 0, none⟩ w4 fun x79 =>
    New (.cells #[.int .u8 (IntKind.u8.wrap x79)] 5) w4 fun b81 w5 =>
    Append 5 (.int .u8 (0 : Int)) 1 1 r76_b r76_l r76_c (some ⟨b81, 0, none⟩) 1 w5 fun b82 c82 w6 =>
    LdS ⟨a_, 1, none⟩ w6 fun x85 =>
    kv_appendStr.Call b82 (r76_l + 1) c82 x85 w6 fun r86_b r86_l r86_c w7 =>
    N2 k r86_b r86_l r86_c (IntKind.i64.wrap (c + (1 : Int))) w7) (
    ToStr b_b b_l w fun s88 =>
    R s88 w)) = kstep Tryz.prog 89 Tryz.f222.results.toList (Tryz.f222.body.getD .skip) (kv_KV_Snapshot.RV R) (kvc Tryz.prog 89 Tryz.f222.results.toList (Tryz.f222.body.getD .skip) (kv_KV_Snapshot.RV R) [([(0, [1, 1, 1, 1, 1, 0, 1, 0, 0]), (2, [1, 1, 1, 1, 1, 0, 1, 0, 0]), (1, [2]), (0, [1, 1, 1, 1, 1, 1])], fun σ w => dP (slotOf σ 0) fun k_ => dL (slotOf σ 3) fun b_b_ b_l_ b_c_ => dI .i64 (slotOf σ 9) fun c_ => N2 k_ b_b_ b_l_ b_c_ c_ w)] 2000) [(0, [1, 1, 1, 1, 1, 0, 1, 0, 0]), (2, [1, 1, 1, 1, 1, 0, 1, 0, 0]), (1, [2]), (0, [1, 1, 1, 1, 1, 1])] [(0, .pointer k), (3, .slice b_b b_l b_c), (9, .int .i64 c)] w := by kernel_rfl
theorem kv_KV_Snapshot.L2b_sound {R : ByteArray → World → Prop} {N2 : Option Addr → Option Addr → Nat → Nat → Int → World → Prop} (hN2 : ∀ k b_b b_l b_c c w, N2 k b_b b_l b_c c w → KW Tryz.prog 222 89 (kv_KV_Snapshot.RV R) ([(0, [1, 1, 1, 1, 1, 0, 1, 0, 0]), (2, [1, 1, 1, 1, 1, 0, 1, 0, 0]), (1, [2]), (0, [1, 1, 1, 1, 1, 1])].map (toItem (Tryz.f222.body.getD .skip))) [(0, .pointer k), (3, .slice b_b b_l b_c), (9, .int .i64 c)] w) (k b_b : Option Addr) (b_l b_c : Nat) (c : Int) (w : World) (h : kv_KV_Snapshot.L2b k b_b b_l b_c c w  N2 R) :
    KW Tryz.prog 222 89 (kv_KV_Snapshot.RV R) ([(0, [1, 1, 1, 1, 1, 0, 1, 0, 0]), (2, [1, 1, 1, 1, 1, 0, 1, 0, 0]), (1, [2]), (0, [1, 1, 1, 1, 1, 1])].map (toItem (Tryz.f222.body.getD .skip))) [(0, .pointer k), (3, .slice b_b b_l b_c), (9, .int .i64 c)] w := by
  exact block_spec Tryz.func222 Tryz.mixed (stops_cons (fun σ w h => by
      obtain ⟨k_, e0, h⟩ := dP_elim h
      obtain ⟨b_b_, b_l_, b_c_, e1, h⟩ := dL_elim h
      obtain ⟨c_, e2, h⟩ := dI_elim h
      exact (hN2 k_ b_b_ b_l_ b_c_ c_ w h).weaken (Sub.cons (Sub.cons (Sub.cons (Sub.nil _) e2) e1) e0)) stops_nil) (Eq.mp (kv_KV_Snapshot.L2b_eq k b_b b_l b_c c w  N2 R ) h)
def kv_KV_Snapshot.L2 (k b_b : Option Addr) (b_l b_c : Nat) (c : Int) (w : World)  (R : ByteArray → World → Prop) : Prop :=
  ∃ (I : Nat → Option Addr → Option Addr → Nat → Nat → Int → World → Prop) (m : Nat), I m k b_b b_l b_c c w ∧ ∀ m k b_b b_l b_c c w, I m k b_b b_l b_c c w → kv_KV_Snapshot.L2b k b_b b_l b_c c w  (fun k' b_b' b_l' b_c' c' w' => ∃ m', m' < m ∧ I m' k' b_b' b_l' b_c' c' w') R
theorem kv_KV_Snapshot.L2_sound {R : ByteArray → World → Prop}  (k b_b : Option Addr) (b_l b_c : Nat) (c : Int) (w : World) (h : kv_KV_Snapshot.L2 k b_b b_l b_c c w  R) :
    KW Tryz.prog 222 89 (kv_KV_Snapshot.RV R) ([(0, [1, 1, 1, 1, 1, 0, 1, 0, 0]), (2, [1, 1, 1, 1, 1, 0, 1, 0, 0]), (1, [2]), (0, [1, 1, 1, 1, 1, 1])].map (toItem (Tryz.f222.body.getD .skip))) [(0, .pointer k), (3, .slice b_b b_l b_c), (9, .int .i64 c)] w := by
  obtain ⟨I, m, hBase, hr⟩ := h
  refine KW.loop (fun m σ w => ∃ (k b_b : Option Addr) (b_l b_c : Nat) (c : Int), σ = [(0, .pointer k), (3, .slice b_b b_l b_c), (9, .int .i64 c)] ∧ I m k b_b b_l b_c c w) ?_ m _ w ⟨k, b_b, b_l, b_c, c, rfl, hBase⟩
  rintro m ih σ w ⟨k, b_b, b_l, b_c, c, rfl, hI⟩
  exact kv_KV_Snapshot.L2b_sound  (N2 := fun k' b_b' b_l' b_c' c' w' => ∃ m', m' < m ∧ I m' k' b_b' b_l' b_c' c' w') (fun k' b_b' b_l' b_c' c' w' hx => by obtain ⟨m', hlt, hI'⟩ := hx; exact ih m' hlt _ w' ⟨k', b_b', b_l', b_c', c', rfl, hI'⟩) k b_b b_l b_c c w (hr m k b_b b_l b_c c w hI)
def kv_KV_Snapshot.B1 (k b_b : Option Addr) (b_l b_c at0 : Nat) (j : Int) (t35 : Bool) (w : World) (N1 : Option Addr → Option Addr → Nat → Nat → Nat → Int → World → Prop)  (R : ByteArray → World → Prop) : Prop :=
  Bm t35 (
    (0 ≤ j ∧ j < ((4 : Nat) : Int)) ∧
    LdI .i64 (Addr.add ⟨at0, 0, none⟩ (j.toNat * 1)) w.drew fun x41 =>
    Pn k fun a =>
    (0 ≤ x41 ∧ x41 < ((8 : Nat) : Int)) ∧
    LdI .i64 (Addr.add a (x41.toNat * 8)) w.drew fun x46_0 =>
    LdI .i64 ((Addr.add a (x41.toNat * 8)).add 1) w.drew fun x46_1 =>
    LdI .u8 ((Addr.add a (x41.toNat * 8)).add 2) w.drew fun x46_2 =>
    LdI .u8 ((Addr.add a (x41.toNat * 8)).add 3) w.drew fun x46_3 =>
    LdI .i64 ((Addr.add a (x41.toNat * 8)).add 4) w.drew fun x46_4 =>
    LdI .u8 ((Addr.add a (x41.toNat * 8)).add 5) w.drew fun x46_5 =>
    LdI .u8 ((Addr.add a (x41.toNat * 8)).add 6) w.drew fun x46_6 =>
    LdI .u8 ((Addr.add a (x41.toNat * 8)).add 7) w.drew fun x46_7 =>
    New (.cells #[.int .i64 (0 : Int), .int .i64 (0 : Int), .int .u8 (0 : Int), .int .u8 (0 : Int), .int .i64 (0 : Int), .int .u8 (0 : Int), .int .u8 (0 : Int), .int .u8 (0 : Int)] 66) w.drew fun c_ w1 =>
    w1.cell? (Addr.add a (x41.toNat * 8)) = some (.int .i64 x46_0) ∧
    w1.cell? ((Addr.add a (x41.toNat * 8)).add 1) = some (.int .i64 x46_1) ∧
    w1.cell? ((Addr.add a (x41.toNat * 8)).add 2) = some (.int .u8 x46_2) ∧
    w1.cell? ((Addr.add a (x41.toNat * 8)).add 3) = some (.int .u8 x46_3) ∧
    w1.cell? ((Addr.add a (x41.toNat * 8)).add 4) = some (.int .i64 x46_4) ∧
    w1.cell? ((Addr.add a (x41.toNat * 8)).add 5) = some (.int .u8 x46_5) ∧
    w1.cell? ((Addr.add a (x41.toNat * 8)).add 6) = some (.int .u8 x46_6) ∧
    w1.cell? ((Addr.add a (x41.toNat * 8)).add 7) = some (.int .u8 x46_7) ∧
    w1.cell? (Addr.add ⟨at0, 0, none⟩ (j.toNat * 1)) = some (.int .i64 x41) ∧
    Sts [.int .i64 x46_0, .int .i64 x46_1, .int .u8 x46_2, .int .u8 x46_3, .int .i64 x46_4, .int .u8 x46_5, .int .u8 x46_6, .int .u8 x46_7] ⟨c_, 0, none⟩ 0 w1 fun w2 =>
    LdI .i64 ⟨c_, 0, none⟩ w2 fun x47_0 =>
    LdI .i64 ⟨c_, 1, none⟩ w2 fun x47_1 =>
    LdI .u8 ⟨c_, 2, none⟩ w2 fun x47_2 =>
    LdI .u8 ⟨c_, 3, none⟩ w2 fun x47_3 =>
    LdI .i64 ⟨c_, 4, none⟩ w2 fun x47_4 =>
    LdI .u8 ⟨c_, 5, none⟩ w2 fun x47_5 =>
    LdI .u8 ⟨c_, 6, none⟩ w2 fun x47_6 =>
    LdI .u8 ⟨c_, 7, none⟩ w2 fun x47_7 =>
    kv_keyOf.Call x47_0 x47_1 x47_2 x47_3 x47_4 x47_5 x47_6 x47_7 w2 fun r48 w3 =>
    kv_appendStr.Call b_b b_l b_c r48 w3 fun r51_b r51_l r51_c w4 =>
    LdI .i64 ⟨c_, 0, none⟩ w4 fun x52_0 =>
    LdI .i64 ⟨c_, 1, none⟩ w4 fun x52_1 =>
    LdI .u8 ⟨c_, 2, none⟩ w4 fun x52_2 =>
    LdI .u8 ⟨c_, 3, none⟩ w4 fun x52_3 =>
    LdI .i64 ⟨c_, 4, none⟩ w4 fun x52_4 =>
    LdI .u8 ⟨c_, 5, none⟩ w4 fun x52_5 =>
    LdI .u8 ⟨c_, 6, none⟩ w4 fun x52_6 =>
    LdI .u8 ⟨c_, 7, none⟩ w4 fun x52_7 =>
    kv_valOf.Call x52_0 x52_1 x52_2 x52_3 x52_4 x52_5 x52_6 x52_7 w4 fun r53 w5 =>
    kv_appendStr.Call r51_b r51_l r51_c r53 w5 fun r56_b r56_l r56_c w6 =>
    N1 k r56_b r56_l r56_c at0 (IntKind.i64.wrap (j + (1 : Int))) w6) (
    kv_KV_Snapshot.L2 k b_b b_l b_c (0 : Int) w  R)
theorem kv_KV_Snapshot.B1_eq (k b_b : Option Addr) (b_l b_c at0 : Nat) (j : Int) (t35 : Bool) (w : World) (N1 : Option Addr → Option Addr → Nat → Nat → Nat → Int → World → Prop)  (R : ByteArray → World → Prop) (sL2 : Option Addr → Option Addr → Nat → Nat → Int → World → Prop) :
    (
  Bm t35 (
    (0 ≤ j ∧ j < ((4 : Nat) : Int)) ∧
    LdI .i64 (Addr.add ⟨at0, 0, none⟩ (j.toNat * 1)) w.drew fun x41 =>
    Pn k fun a =>
    (0 ≤ x41 ∧ x41 < ((8 : Nat) : Int)) ∧
    LdI .i64 (Addr.add a (x41.toNat * 8)) w.drew fun x46_0 =>
    LdI .i64 ((Addr.add a (x41.toNat * 8)).add 1) w.drew fun x46_1 =>
    LdI .u8 ((Addr.add a (x41.toNat * 8)).add 2) w.drew fun x46_2 =>
    LdI .u8 ((Addr.add a (x41.toNat * 8)).add 3) w.drew fun x46_3 =>
    LdI .i64 ((Addr.add a (x41.toNat * 8)).add 4) w.drew fun x46_4 =>
    LdI .u8 ((Addr.add a (x41.toNat * 8)).add 5) w.drew fun x46_5 =>
    LdI .u8 ((Addr.add a (x41.toNat * 8)).add 6) w.drew fun x46_6 =>
    LdI .u8 ((Addr.add a (x41.toNat * 8)).add 7) w.drew fun x46_7 =>
    New (.cells #[.int .i64 (0 : Int), .int .i64 (0 : Int), .int .u8 (0 : Int), .int .u8 (0 : Int), .int .i64 (0 : Int), .int .u8 (0 : Int), .int .u8 (0 : Int), .int .u8 (0 : Int)] 66) w.drew fun c_ w1 =>
    w1.cell? (Addr.add a (x41.toNat * 8)) = some (.int .i64 x46_0) ∧
    w1.cell? ((Addr.add a (x41.toNat * 8)).add 1) = some (.int .i64 x46_1) ∧
    w1.cell? ((Addr.add a (x41.toNat * 8)).add 2) = some (.int .u8 x46_2) ∧
    w1.cell? ((Addr.add a (x41.toNat * 8)).add 3) = some (.int .u8 x46_3) ∧
    w1.cell? ((Addr.add a (x41.toNat * 8)).add 4) = some (.int .i64 x46_4) ∧
    w1.cell? ((Addr.add a (x41.toNat * 8)).add 5) = some (.int .u8 x46_5) ∧
    w1.cell? ((Addr.add a (x41.toNat * 8)).add 6) = some (.int .u8 x46_6) ∧
    w1.cell? ((Addr.add a (x41.toNat * 8)).add 7) = some (.int .u8 x46_7) ∧
    w1.cell? (Addr.add ⟨at0, 0, none⟩ (j.toNat * 1)) = some (.int .i64 x41) ∧
    Sts [.int .i64 x46_0, .int .i64 x46_1, .int .u8 x46_2, .int .u8 x46_3, .int .i64 x46_4, .int .u8 x46_5, .int .u8 x46_6, .int .u8 x46_7] ⟨c_, 0, none⟩ 0 w1 fun w2 =>
    LdI .i64 ⟨c_, 0, none⟩ w2 fun x47_0 =>
    LdI .i64 ⟨c_, 1, none⟩ w2 fun x47_1 =>
    LdI .u8 ⟨c_, 2, none⟩ w2 fun x47_2 =>
    LdI .u8 ⟨c_, 3, none⟩ w2 fun x47_3 =>
    LdI .i64 ⟨c_, 4, none⟩ w2 fun x47_4 =>
    LdI .u8 ⟨c_, 5, none⟩ w2 fun x47_5 =>
    LdI .u8 ⟨c_, 6, none⟩ w2 fun x47_6 =>
    LdI .u8 ⟨c_, 7, none⟩ w2 fun x47_7 =>
    kv_keyOf.Call x47_0 x47_1 x47_2 x47_3 x47_4 x47_5 x47_6 x47_7 w2 fun r48 w3 =>
    kv_appendStr.Call b_b b_l b_c r48 w3 fun r51_b r51_l r51_c w4 =>
    LdI .i64 ⟨c_, 0, none⟩ w4 fun x52_0 =>
    LdI .i64 ⟨c_, 1, none⟩ w4 fun x52_1 =>
    LdI .u8 ⟨c_, 2, none⟩ w4 fun x52_2 =>
    LdI .u8 ⟨c_, 3, none⟩ w4 fun x52_3 =>
    LdI .i64 ⟨c_, 4, none⟩ w4 fun x52_4 =>
    LdI .u8 ⟨c_, 5, none⟩ w4 fun x52_5 =>
    LdI .u8 ⟨c_, 6, none⟩ w4 fun x52_6 =>
    LdI .u8 ⟨c_, 7, none⟩ w4 fun x52_7 =>
    kv_valOf.Call x52_0 x52_1 x52_2 x52_3 x52_4 x52_5 x52_6 x52_7 w4 fun r53 w5 =>
    kv_appendStr.Call r51_b r51_l r51_c r53 w5 fun r56_b r56_l r56_c w6 =>
    N1 k r56_b r56_l r56_c at0 (IntKind.i64.wrap (j + (1 : Int))) w6) (
    sL2 k b_b b_l b_c (0 : Int) w)) = kstep Tryz.prog 89 Tryz.f222.results.toList (Tryz.f222.body.getD .skip) (kv_KV_Snapshot.RV R) (kvc Tryz.prog 89 Tryz.f222.results.toList (Tryz.f222.body.getD .skip) (kv_KV_Snapshot.RV R) [([(0, [1, 1, 1, 1, 0, 1, 0, 0]), (2, [1, 1, 1, 1, 0, 1, 0, 0]), (1, [0]), (0, [1, 1, 1, 1, 1])], fun σ w => dP (slotOf σ 0) fun k_ => dL (slotOf σ 3) fun b_b_ b_l_ b_c_ => dK (slotOf σ 4) fun at0_ => dI .i64 (slotOf σ 5) fun j_ => N1 k_ b_b_ b_l_ b_c_ at0_ j_ w),
    ([(0, [1, 1, 1, 1, 1, 0, 1, 0, 0]), (2, [1, 1, 1, 1, 1, 0, 1, 0, 0]), (1, [2]), (0, [1, 1, 1, 1, 1, 1])], fun σ w => dP (slotOf σ 0) fun k_ => dL (slotOf σ 3) fun b_b_ b_l_ b_c_ => dI .i64 (slotOf σ 9) fun c_ => sL2 k_ b_b_ b_l_ b_c_ c_ w)] 2000) [(0, [1, 1, 1, 1, 0, 1, 0, 0, 0, 1]), (0, [1, 1, 1, 1, 0, 1, 0, 0, 1]), (2, [1, 1, 1, 1, 0, 1, 0, 0]), (1, [0]), (0, [1, 1, 1, 1, 1])] [(0, .pointer k), (3, .slice b_b b_l b_c), (4, .pointer (some ⟨at0, 0, none⟩)), (5, .int .i64 j), (35, .bool t35)] w := by kernel_rfl
theorem kv_KV_Snapshot.B1_sound {R : ByteArray → World → Prop} {N1 : Option Addr → Option Addr → Nat → Nat → Nat → Int → World → Prop} (hN1 : ∀ k b_b b_l b_c at0 j w, N1 k b_b b_l b_c at0 j w → KW Tryz.prog 222 89 (kv_KV_Snapshot.RV R) ([(0, [1, 1, 1, 1, 0, 1, 0, 0]), (2, [1, 1, 1, 1, 0, 1, 0, 0]), (1, [0]), (0, [1, 1, 1, 1, 1])].map (toItem (Tryz.f222.body.getD .skip))) [(0, .pointer k), (3, .slice b_b b_l b_c), (4, .pointer (some ⟨at0, 0, none⟩)), (5, .int .i64 j)] w) (k b_b : Option Addr) (b_l b_c at0 : Nat) (j : Int) (t35 : Bool) (w : World) (h : kv_KV_Snapshot.B1 k b_b b_l b_c at0 j t35 w N1  R) :
    KW Tryz.prog 222 89 (kv_KV_Snapshot.RV R) ([(0, [1, 1, 1, 1, 0, 1, 0, 0, 0, 1]), (0, [1, 1, 1, 1, 0, 1, 0, 0, 1]), (2, [1, 1, 1, 1, 0, 1, 0, 0]), (1, [0]), (0, [1, 1, 1, 1, 1])].map (toItem (Tryz.f222.body.getD .skip))) [(0, .pointer k), (3, .slice b_b b_l b_c), (4, .pointer (some ⟨at0, 0, none⟩)), (5, .int .i64 j), (35, .bool t35)] w := by
  exact block_spec Tryz.func222 Tryz.mixed (stops_cons (fun σ w h => by
      obtain ⟨k_, e0, h⟩ := dP_elim h
      obtain ⟨b_b_, b_l_, b_c_, e1, h⟩ := dL_elim h
      obtain ⟨at0_, e2, h⟩ := dK_elim h
      obtain ⟨j_, e3, h⟩ := dI_elim h
      exact (hN1 k_ b_b_ b_l_ b_c_ at0_ j_ w h).weaken (Sub.cons (Sub.cons (Sub.cons (Sub.cons (Sub.nil _) e3) e2) e1) e0)) (stops_cons (fun σ w h => by
      obtain ⟨k_, e0, h⟩ := dP_elim h
      obtain ⟨b_b_, b_l_, b_c_, e1, h⟩ := dL_elim h
      obtain ⟨c_, e2, h⟩ := dI_elim h
      exact (kv_KV_Snapshot.L2_sound  k_ b_b_ b_l_ b_c_ c_ w h).weaken (Sub.cons (Sub.cons (Sub.cons (Sub.nil _) e2) e1) e0)) stops_nil)) (Eq.mp (kv_KV_Snapshot.B1_eq k b_b b_l b_c at0 j t35 w N1  R (fun k_ b_b_ b_l_ b_c_ c_ w => kv_KV_Snapshot.L2 k_ b_b_ b_l_ b_c_ c_ w  R)) h)
def kv_KV_Snapshot.L1b (k b_b : Option Addr) (b_l b_c at0 : Nat) (j : Int) (w : World)  (N1 : Option Addr → Option Addr → Nat → Nat → Nat → Int → World → Prop) (R : ByteArray → World → Prop) : Prop :=
  Pn k fun a =>
  LdI .i64 (a.add 64) w fun x30 =>
  Bm (decide (j < x30)) (
    kv_KV_Snapshot.B1 k b_b b_l b_c at0 j (decide (j < (4 : Int))) w N1 R) (
    kv_KV_Snapshot.B1 k b_b b_l b_c at0 j false w N1 R)
theorem kv_KV_Snapshot.L1b_eq (k b_b : Option Addr) (b_l b_c at0 : Nat) (j : Int) (w : World)  (N1 : Option Addr → Option Addr → Nat → Nat → Nat → Int → World → Prop) (R : ByteArray → World → Prop) (sB1 : Option Addr → Option Addr → Nat → Nat → Nat → Int → Bool → World → Prop) :
    (
  Pn k fun a =>
  LdI .i64 (a.add 64) w fun x30 =>
  Bm (decide (j < x30)) (
    sB1 k b_b b_l b_c at0 j (decide (j < (4 : Int))) w) (
    sB1 k b_b b_l b_c at0 j false w)) = kstep Tryz.prog 89 Tryz.f222.results.toList (Tryz.f222.body.getD .skip) (kv_KV_Snapshot.RV R) (kvc Tryz.prog 89 Tryz.f222.results.toList (Tryz.f222.body.getD .skip) (kv_KV_Snapshot.RV R) [([(0, [1, 1, 1, 1, 0, 1, 0, 0, 0, 1]), (0, [1, 1, 1, 1, 0, 1, 0, 0, 1]), (2, [1, 1, 1, 1, 0, 1, 0, 0]), (1, [0]), (0, [1, 1, 1, 1, 1])], fun σ w => dP (slotOf σ 0) fun k_ => dL (slotOf σ 3) fun b_b_ b_l_ b_c_ => dK (slotOf σ 4) fun at0_ => dI .i64 (slotOf σ 5) fun j_ => dB (slotOf σ 35) fun t35_ => sB1 k_ b_b_ b_l_ b_c_ at0_ j_ t35_ w)] 2000) [(0, [1, 1, 1, 1, 0, 1, 0, 0]), (2, [1, 1, 1, 1, 0, 1, 0, 0]), (1, [0]), (0, [1, 1, 1, 1, 1])] [(0, .pointer k), (3, .slice b_b b_l b_c), (4, .pointer (some ⟨at0, 0, none⟩)), (5, .int .i64 j)] w := by kernel_rfl
theorem kv_KV_Snapshot.L1b_sound {R : ByteArray → World → Prop} {N1 : Option Addr → Option Addr → Nat → Nat → Nat → Int → World → Prop} (hN1 : ∀ k b_b b_l b_c at0 j w, N1 k b_b b_l b_c at0 j w → KW Tryz.prog 222 89 (kv_KV_Snapshot.RV R) ([(0, [1, 1, 1, 1, 0, 1, 0, 0]), (2, [1, 1, 1, 1, 0, 1, 0, 0]), (1, [0]), (0, [1, 1, 1, 1, 1])].map (toItem (Tryz.f222.body.getD .skip))) [(0, .pointer k), (3, .slice b_b b_l b_c), (4, .pointer (some ⟨at0, 0, none⟩)), (5, .int .i64 j)] w) (k b_b : Option Addr) (b_l b_c at0 : Nat) (j : Int) (w : World) (h : kv_KV_Snapshot.L1b k b_b b_l b_c at0 j w  N1 R) :
    KW Tryz.prog 222 89 (kv_KV_Snapshot.RV R) ([(0, [1, 1, 1, 1, 0, 1, 0, 0]), (2, [1, 1, 1, 1, 0, 1, 0, 0]), (1, [0]), (0, [1, 1, 1, 1, 1])].map (toItem (Tryz.f222.body.getD .skip))) [(0, .pointer k), (3, .slice b_b b_l b_c), (4, .pointer (some ⟨at0, 0, none⟩)), (5, .int .i64 j)] w := by
  exact block_spec Tryz.func222 Tryz.mixed (stops_cons (fun σ w h => by
      obtain ⟨k_, e0, h⟩ := dP_elim h
      obtain ⟨b_b_, b_l_, b_c_, e1, h⟩ := dL_elim h
      obtain ⟨at0_, e2, h⟩ := dK_elim h
      obtain ⟨j_, e3, h⟩ := dI_elim h
      obtain ⟨t35_, e4, h⟩ := dB_elim h
      exact (kv_KV_Snapshot.B1_sound hN1 k_ b_b_ b_l_ b_c_ at0_ j_ t35_ w h).weaken (Sub.cons (Sub.cons (Sub.cons (Sub.cons (Sub.cons (Sub.nil _) e4) e3) e2) e1) e0)) stops_nil) (Eq.mp (kv_KV_Snapshot.L1b_eq k b_b b_l b_c at0 j w  N1 R (fun k_ b_b_ b_l_ b_c_ at0_ j_ t35_ w => kv_KV_Snapshot.B1 k_ b_b_ b_l_ b_c_ at0_ j_ t35_ w N1 R)) h)
def kv_KV_Snapshot.L1 (k b_b : Option Addr) (b_l b_c at0 : Nat) (j : Int) (w : World)  (R : ByteArray → World → Prop) : Prop :=
  ∃ (I : Nat → Option Addr → Option Addr → Nat → Nat → Nat → Int → World → Prop) (m : Nat), I m k b_b b_l b_c at0 j w ∧ ∀ m k b_b b_l b_c at0 j w, I m k b_b b_l b_c at0 j w → kv_KV_Snapshot.L1b k b_b b_l b_c at0 j w  (fun k' b_b' b_l' b_c' at0' j' w' => ∃ m', m' < m ∧ I m' k' b_b' b_l' b_c' at0' j' w') R
theorem kv_KV_Snapshot.L1_sound {R : ByteArray → World → Prop}  (k b_b : Option Addr) (b_l b_c at0 : Nat) (j : Int) (w : World) (h : kv_KV_Snapshot.L1 k b_b b_l b_c at0 j w  R) :
    KW Tryz.prog 222 89 (kv_KV_Snapshot.RV R) ([(0, [1, 1, 1, 1, 0, 1, 0, 0]), (2, [1, 1, 1, 1, 0, 1, 0, 0]), (1, [0]), (0, [1, 1, 1, 1, 1])].map (toItem (Tryz.f222.body.getD .skip))) [(0, .pointer k), (3, .slice b_b b_l b_c), (4, .pointer (some ⟨at0, 0, none⟩)), (5, .int .i64 j)] w := by
  obtain ⟨I, m, hBase, hr⟩ := h
  refine KW.loop (fun m σ w => ∃ (k b_b : Option Addr) (b_l b_c at0 : Nat) (j : Int), σ = [(0, .pointer k), (3, .slice b_b b_l b_c), (4, .pointer (some ⟨at0, 0, none⟩)), (5, .int .i64 j)] ∧ I m k b_b b_l b_c at0 j w) ?_ m _ w ⟨k, b_b, b_l, b_c, at0, j, rfl, hBase⟩
  rintro m ih σ w ⟨k, b_b, b_l, b_c, at0, j, rfl, hI⟩
  exact kv_KV_Snapshot.L1b_sound  (N1 := fun k' b_b' b_l' b_c' at0' j' w' => ∃ m', m' < m ∧ I m' k' b_b' b_l' b_c' at0' j' w') (fun k' b_b' b_l' b_c' at0' j' w' hx => by obtain ⟨m', hlt, hI'⟩ := hx; exact ih m' hlt _ w' ⟨k', b_b', b_l', b_c', at0', j', rfl, hI'⟩) k b_b b_l b_c at0 j w (hr m k b_b b_l b_c at0 j w hI)
def kv_KV_Snapshot.B0 (k : Option Addr) (w : World)   (R : ByteArray → World → Prop) : Prop :=
  Make 5 (.int .u8 (0 : Int)) 1 1 (0 : Int) (128 : Int) w fun b11 w1 =>
  Pn k fun a =>
  LdI .i64 (a.add 64) w1 fun x17 =>
  New (.cells #[.int .u8 (IntKind.u8.wrap x17)] 5) w1 fun b19 w2 =>
  Append 5 (.int .u8 (0 : Int)) 1 1 (some ⟨b11, 0, none⟩) 0 128 (some ⟨b19, 0, none⟩) 1 w2 fun b20 c20 w3 =>
  Pn k fun a_1 =>
  kv_table_sorted.Call (some a_1) w3 fun r24_0 r24_1 r24_2 r24_3 w4 =>
  New (.cells #[.int .i64 (0 : Int), .int .i64 (0 : Int), .int .i64 (0 : Int), .int .i64 (0 : Int)] 262) w4 fun at0_ w5 =>
  Sts [.int .i64 r24_0, .int .i64 r24_1, .int .i64 r24_2, .int .i64 r24_3] ⟨at0_, 0, none⟩ 0 w5 fun w6 =>
  kv_KV_Snapshot.L1 k b20 (0 + 1) c20 at0_ (0 : Int) w6  R
theorem kv_KV_Snapshot.B0_eq (k : Option Addr) (w : World)   (R : ByteArray → World → Prop) (sL1 : Option Addr → Option Addr → Nat → Nat → Nat → Int → World → Prop) :
    (
  Make 5 (.int .u8 (0 : Int)) 1 1 (0 : Int) (128 : Int) w fun b11 w1 =>
  Pn k fun a =>
  LdI .i64 (a.add 64) w1 fun x17 =>
  New (.cells #[.int .u8 (IntKind.u8.wrap x17)] 5) w1 fun b19 w2 =>
  Append 5 (.int .u8 (0 : Int)) 1 1 (some ⟨b11, 0, none⟩) 0 128 (some ⟨b19, 0, none⟩) 1 w2 fun b20 c20 w3 =>
  Pn k fun a_1 =>
  kv_table_sorted.Call (some a_1) w3 fun r24_0 r24_1 r24_2 r24_3 w4 =>
  New (.cells #[.int .i64 (0 : Int), .int .i64 (0 : Int), .int .i64 (0 : Int), .int .i64 (0 : Int)] 262) w4 fun at0_ w5 =>
  Sts [.int .i64 r24_0, .int .i64 r24_1, .int .i64 r24_2, .int .i64 r24_3] ⟨at0_, 0, none⟩ 0 w5 fun w6 =>
  sL1 k b20 (0 + 1) c20 at0_ (0 : Int) w6) = kstep Tryz.prog 89 Tryz.f222.results.toList (Tryz.f222.body.getD .skip) (kv_KV_Snapshot.RV R) (kvc Tryz.prog 89 Tryz.f222.results.toList (Tryz.f222.body.getD .skip) (kv_KV_Snapshot.RV R) [([(0, [1, 1, 1, 1, 0, 1, 0, 0]), (2, [1, 1, 1, 1, 0, 1, 0, 0]), (1, [0]), (0, [1, 1, 1, 1, 1])], fun σ w => dP (slotOf σ 0) fun k_ => dL (slotOf σ 3) fun b_b_ b_l_ b_c_ => dK (slotOf σ 4) fun at0_ => dI .i64 (slotOf σ 5) fun j_ => sL1 k_ b_b_ b_l_ b_c_ at0_ j_ w)] 2000) [(0, [])] [(0, .pointer k)] w := by kernel_rfl
theorem kv_KV_Snapshot.B0_sound {R : ByteArray → World → Prop}  (k : Option Addr) (w : World) (h : kv_KV_Snapshot.B0 k w   R) :
    KW Tryz.prog 222 89 (kv_KV_Snapshot.RV R) ([(0, [])].map (toItem (Tryz.f222.body.getD .skip))) [(0, .pointer k)] w := by
  exact block_spec Tryz.func222 Tryz.mixed (stops_cons (fun σ w h => by
      obtain ⟨k_, e0, h⟩ := dP_elim h
      obtain ⟨b_b_, b_l_, b_c_, e1, h⟩ := dL_elim h
      obtain ⟨at0_, e2, h⟩ := dK_elim h
      obtain ⟨j_, e3, h⟩ := dI_elim h
      exact (kv_KV_Snapshot.L1_sound  k_ b_b_ b_l_ b_c_ at0_ j_ w h).weaken (Sub.cons (Sub.cons (Sub.cons (Sub.cons (Sub.nil _) e3) e2) e1) e0)) stops_nil) (Eq.mp (kv_KV_Snapshot.B0_eq k w   R (fun k_ b_b_ b_l_ b_c_ at0_ j_ w => kv_KV_Snapshot.L1 k_ b_b_ b_l_ b_c_ at0_ j_ w  R)) h)
theorem kv_KV_Snapshot.sound (k : Option Addr) (w : World) (R : ByteArray → World → Prop) (h : kv_KV_Snapshot.B0 k w R) : kv_KV_Snapshot.Call k w R := by
  have hc := calls_of_block (args := #[.pointer k]) Tryz.func222 (body := (Tryz.f222.body.getD .skip)) (by kernel_rfl) (by kernel_rfl) (args_slot _) (kv_KV_Snapshot.B0_sound k w h)
  exact hc.mono fun e w' he => by
    obtain ⟨v, rfl, hv⟩ := he
    exact kv_KV_Snapshot.RV_elim hv
def sync_Sync_Compact.B0 (s : Option Addr) (upTo : Int) (snap : ByteArray) (w : World)   (R : Int → World → Prop) : Prop :=
  Pn s fun a =>
  LdI .i64 (a.add 2) w fun x11 =>
  Bm (decide (upTo > x11)) (
    R (1 : Int) w) (
    Pn s fun a_1 =>
    LdP a_1 w fun x16 =>
    rlog_Log_Compact.Call x16 upTo snap w fun r19 w1 =>
    R r19 w1)
theorem sync_Sync_Compact.B0_eq (s : Option Addr) (upTo : Int) (snap : ByteArray) (w : World)   (R : Int → World → Prop)  :
    (
  Pn s fun a =>
  LdI .i64 (a.add 2) w fun x11 =>
  Bm (decide (upTo > x11)) (
    R (1 : Int) w) (
    Pn s fun a_1 =>
    LdP a_1 w fun x16 =>
    rlog_Log_Compact.Call x16 upTo snap w fun r19 w1 =>
    R r19 w1)) = kstep Tryz.prog 20 Tryz.f223.results.toList (Tryz.f223.body.getD .skip) (sync_Sync_Compact.RV R) (kvc Tryz.prog 20 Tryz.f223.results.toList (Tryz.f223.body.getD .skip) (sync_Sync_Compact.RV R) [] 2000) [(0, [])] [(0, .pointer s), (1, .int .i64 upTo), (2, .string snap)] w := by kernel_rfl
theorem sync_Sync_Compact.B0_sound {R : Int → World → Prop}  (s : Option Addr) (upTo : Int) (snap : ByteArray) (w : World) (h : sync_Sync_Compact.B0 s upTo snap w   R) :
    KW Tryz.prog 223 20 (sync_Sync_Compact.RV R) ([(0, [])].map (toItem (Tryz.f223.body.getD .skip))) [(0, .pointer s), (1, .int .i64 upTo), (2, .string snap)] w := by
  exact block_spec Tryz.func223 Tryz.mixed stops_nil (Eq.mp (sync_Sync_Compact.B0_eq s upTo snap w   R ) h)
theorem sync_Sync_Compact.sound (s : Option Addr) (upTo : Int) (snap : ByteArray) (w : World) (R : Int → World → Prop) (h : sync_Sync_Compact.B0 s upTo snap w R) : sync_Sync_Compact.Call s upTo snap w R := by
  have hc := calls_of_block (args := #[.pointer s, .int .i64 upTo, .string snap]) Tryz.func223 (body := (Tryz.f223.body.getD .skip)) (by kernel_rfl) (by kernel_rfl) (args_slot _) (sync_Sync_Compact.B0_sound s upTo snap w h)
  exact hc.mono fun e w' he => by
    obtain ⟨v, rfl, hv⟩ := he
    exact sync_Sync_Compact.RV_elim hv
def kv_KV_Apply.B0 (k : Option Addr) (data : ByteArray) (w : World)   (R : Int → ByteArray → World → Prop) : Prop :=
  New (.cells #[.int .i64 (0 : Int), .string (ByteArray.mk #[])] 93) w fun b4 w1 =>
  api_DecodeCmd.Call data w1 fun r11_0_0 r11_0_1 r11_0_2 r11_0_3 r11_0_4 r11_0_5 r11_1 w2 =>
  New (.cells #[.int .i64 (0 : Int), .int .i64 (0 : Int), .int .i64 (0 : Int), .string (ByteArray.mk #[]), .string (ByteArray.mk #[]), .string (ByteArray.mk #[])] 87) w2 fun c_ w3 =>
  Sts [.int .i64 r11_0_0, .int .i64 r11_0_1, .int .i64 r11_0_2, .string r11_0_3, .string r11_0_4, .string r11_0_5] ⟨c_, 0, none⟩ 0 w3 fun w4 =>
  Bm (r11_1 != (0 : Int)) (
    Sts [.int .i64 (9 : Int), .string (ByteArray.mk #[])] ⟨b4, 0, none⟩ 0 w4 fun w5 =>
    LdI .i64 ⟨b4, 0, none⟩ w5 fun r_0 =>
    LdS ⟨b4, 1, none⟩ w5 fun r_1 =>
    R r_0 r_1 w5) (
    LdI .i64 ⟨c_, 1, none⟩ w4.drew fun x19 =>
    Pn k fun a =>
    (0 ≤ x19 ∧ x19 < ((3 : Nat) : Int)) ∧
    LdI .i64 (Addr.add (a.add 66) (x19.toNat * 6)) w4.drew fun x23_0 =>
    LdI .i64 ((Addr.add (a.add 66) (x19.toNat * 6)).add 1) w4.drew fun x23_1 =>
    LdI .i64 ((Addr.add (a.add 66) (x19.toNat * 6)).add 2) w4.drew fun x23_2 =>
    LdI .u8 ((Addr.add (a.add 66) (x19.toNat * 6)).add 3) w4.drew fun x23_3 =>
    LdI .u8 ((Addr.add (a.add 66) (x19.toNat * 6)).add 4) w4.drew fun x23_4 =>
    LdI .u8 ((Addr.add (a.add 66) (x19.toNat * 6)).add 5) w4.drew fun x23_5 =>
    New (.cells #[.int .i64 (0 : Int), .int .i64 (0 : Int), .int .i64 (0 : Int), .int .u8 (0 : Int), .int .u8 (0 : Int), .int .u8 (0 : Int)] 71) w4.drew fun last_ w6 =>
    w6.cell? (Addr.add (a.add 66) (x19.toNat * 6)) = some (.int .i64 x23_0) ∧
    w6.cell? ((Addr.add (a.add 66) (x19.toNat * 6)).add 1) = some (.int .i64 x23_1) ∧
    w6.cell? ((Addr.add (a.add 66) (x19.toNat * 6)).add 2) = some (.int .i64 x23_2) ∧
    w6.cell? ((Addr.add (a.add 66) (x19.toNat * 6)).add 3) = some (.int .u8 x23_3) ∧
    w6.cell? ((Addr.add (a.add 66) (x19.toNat * 6)).add 4) = some (.int .u8 x23_4) ∧
    w6.cell? ((Addr.add (a.add 66) (x19.toNat * 6)).add 5) = some (.int .u8 x23_5) ∧
    w6.cell? ⟨c_, 1, none⟩ = some (.int .i64 x19) ∧
    Sts [.int .i64 x23_0, .int .i64 x23_1, .int .i64 x23_2, .int .u8 x23_3, .int .u8 x23_4, .int .u8 x23_5] ⟨last_, 0, none⟩ 0 w6 fun w7 =>
    LdI .i64 ⟨c_, 2, none⟩ w7 fun x25 =>
    LdI .i64 ⟨last_, 0, none⟩ w7 fun x27 =>
    Bm (decide (x25 < x27)) (
      Sts [.int .i64 (10 : Int), .string (ByteArray.mk #[])] ⟨b4, 0, none⟩ 0 w7 fun w8 =>
      LdI .i64 ⟨b4, 0, none⟩ w8 fun r_0_1 =>
      LdS ⟨b4, 1, none⟩ w8 fun r_1_1 =>
      R r_0_1 r_1_1 w8) (
      LdI .i64 ⟨c_, 2, none⟩ w7 fun x31 =>
      LdI .i64 ⟨last_, 0, none⟩ w7 fun x33 =>
      Bm (x31 == x33) (
        LdI .i64 ⟨last_, 0, none⟩ w7 fun x35_0 =>
        LdI .i64 ⟨last_, 1, none⟩ w7 fun x35_1 =>
        LdI .i64 ⟨last_, 2, none⟩ w7 fun x35_2 =>
        LdI .u8 ⟨last_, 3, none⟩ w7 fun x35_3 =>
        LdI .u8 ⟨last_, 4, none⟩ w7 fun x35_4 =>
        LdI .u8 ⟨last_, 5, none⟩ w7 fun x35_5 =>
        kv_ansOf.Call x35_0 x35_1 x35_2 x35_3 x35_4 x35_5 w7 fun r36_0 r36_1 w9 =>
        Sts [.int .i64 r36_0, .string r36_1] ⟨b4, 0, none⟩ 0 w9 fun w10 =>
        LdI .i64 ⟨b4, 0, none⟩ w10 fun r_0_2 =>
        LdS ⟨b4, 1, none⟩ w10 fun r_1_2 =>
        R r_0_2 r_1_2 w10) (
        LdI .i64 ⟨c_, 0, none⟩ w7 fun x38_0 =>
        LdI .i64 ⟨c_, 1, none⟩ w7 fun x38_1 =>
        LdI .i64 ⟨c_, 2, none⟩ w7 fun x38_2 =>
        LdS ⟨c_, 3, none⟩ w7 fun x38_3 =>
        LdS ⟨c_, 4, none⟩ w7 fun x38_4 =>
        LdS ⟨c_, 5, none⟩ w7 fun x38_5 =>
        kv_KV_run.Call k x38_0 x38_1 x38_2 x38_3 x38_4 x38_5 w7 fun r39_0 r39_1 w11 =>
        New (.cells #[.int .i64 (0 : Int), .string (ByteArray.mk #[])] 93) w11 fun a_ w12 =>
        Sts [.int .i64 r39_0, .string r39_1] ⟨a_, 0, none⟩ 0 w12 fun w13 =>
        LdI .i64 ⟨c_, 1, none⟩ w13.drew fun x42 =>
        LdI .i64 ⟨c_, 2, none⟩ w13.drew fun x44 =>
        LdI .i64 ⟨a_, 0, none⟩ w13.drew fun x45_0 =>
        LdS ⟨a_, 1, none⟩ w13.drew fun x45_1 =>
        Pn k fun a_1 =>
        kv_mkSession.Call x44 x45_0 x45_1 w13.drew fun r46_0 r46_1 r46_2 r46_3 r46_4 r46_5 w14 =>
        w14.cell? ⟨c_, 1, none⟩ = some (.int .i64 x42) ∧
        (0 ≤ x42 ∧ x42 < ((3 : Nat) : Int)) ∧
        Sts [.int .i64 r46_0, .int .i64 r46_1, .int .i64 r46_2, .int .u8 r46_3, .int .u8 r46_4, .int .u8 r46_5] (Addr.add (a_1.add 66) (x42.toNat * 6)) 0 w14 fun w15 =>
        LdI .i64 ⟨a_, 0, none⟩ w15 fun x50_0 =>
        LdS ⟨a_, 1, none⟩ w15 fun x50_1 =>
        Sts [.int .i64 x50_0, .string x50_1] ⟨b4, 0, none⟩ 0 w15 fun w16 =>
        LdI .i64 ⟨b4, 0, none⟩ w16 fun r_0_3 =>
        LdS ⟨b4, 1, none⟩ w16 fun r_1_3 =>
        R r_0_3 r_1_3 w16)))
theorem kv_KV_Apply.B0_eq (k : Option Addr) (data : ByteArray) (w : World)   (R : Int → ByteArray → World → Prop)  :
    (
  New (.cells #[.int .i64 (0 : Int), .string (ByteArray.mk #[])] 93) w fun b4 w1 =>
  api_DecodeCmd.Call data w1 fun r11_0_0 r11_0_1 r11_0_2 r11_0_3 r11_0_4 r11_0_5 r11_1 w2 =>
  New (.cells #[.int .i64 (0 : Int), .int .i64 (0 : Int), .int .i64 (0 : Int), .string (ByteArray.mk #[]), .string (ByteArray.mk #[]), .string (ByteArray.mk #[])] 87) w2 fun c_ w3 =>
  Sts [.int .i64 r11_0_0, .int .i64 r11_0_1, .int .i64 r11_0_2, .string r11_0_3, .string r11_0_4, .string r11_0_5] ⟨c_, 0, none⟩ 0 w3 fun w4 =>
  Bm (r11_1 != (0 : Int)) (
    Sts [.int .i64 (9 : Int), .string (ByteArray.mk #[])] ⟨b4, 0, none⟩ 0 w4 fun w5 =>
    LdI .i64 ⟨b4, 0, none⟩ w5 fun r_0 =>
    LdS ⟨b4, 1, none⟩ w5 fun r_1 =>
    R r_0 r_1 w5) (
    LdI .i64 ⟨c_, 1, none⟩ w4.drew fun x19 =>
    Pn k fun a =>
    (0 ≤ x19 ∧ x19 < ((3 : Nat) : Int)) ∧
    LdI .i64 (Addr.add (a.add 66) (x19.toNat * 6)) w4.drew fun x23_0 =>
    LdI .i64 ((Addr.add (a.add 66) (x19.toNat * 6)).add 1) w4.drew fun x23_1 =>
    LdI .i64 ((Addr.add (a.add 66) (x19.toNat * 6)).add 2) w4.drew fun x23_2 =>
    LdI .u8 ((Addr.add (a.add 66) (x19.toNat * 6)).add 3) w4.drew fun x23_3 =>
    LdI .u8 ((Addr.add (a.add 66) (x19.toNat * 6)).add 4) w4.drew fun x23_4 =>
    LdI .u8 ((Addr.add (a.add 66) (x19.toNat * 6)).add 5) w4.drew fun x23_5 =>
    New (.cells #[.int .i64 (0 : Int), .int .i64 (0 : Int), .int .i64 (0 : Int), .int .u8 (0 : Int), .int .u8 (0 : Int), .int .u8 (0 : Int)] 71) w4.drew fun last_ w6 =>
    w6.cell? (Addr.add (a.add 66) (x19.toNat * 6)) = some (.int .i64 x23_0) ∧
    w6.cell? ((Addr.add (a.add 66) (x19.toNat * 6)).add 1) = some (.int .i64 x23_1) ∧
    w6.cell? ((Addr.add (a.add 66) (x19.toNat * 6)).add 2) = some (.int .i64 x23_2) ∧
    w6.cell? ((Addr.add (a.add 66) (x19.toNat * 6)).add 3) = some (.int .u8 x23_3) ∧
    w6.cell? ((Addr.add (a.add 66) (x19.toNat * 6)).add 4) = some (.int .u8 x23_4) ∧
    w6.cell? ((Addr.add (a.add 66) (x19.toNat * 6)).add 5) = some (.int .u8 x23_5) ∧
    w6.cell? ⟨c_, 1, none⟩ = some (.int .i64 x19) ∧
    Sts [.int .i64 x23_0, .int .i64 x23_1, .int .i64 x23_2, .int .u8 x23_3, .int .u8 x23_4, .int .u8 x23_5] ⟨last_, 0, none⟩ 0 w6 fun w7 =>
    LdI .i64 ⟨c_, 2, none⟩ w7 fun x25 =>
    LdI .i64 ⟨last_, 0, none⟩ w7 fun x27 =>
    Bm (decide (x25 < x27)) (
      Sts [.int .i64 (10 : Int), .string (ByteArray.mk #[])] ⟨b4, 0, none⟩ 0 w7 fun w8 =>
      LdI .i64 ⟨b4, 0, none⟩ w8 fun r_0_1 =>
      LdS ⟨b4, 1, none⟩ w8 fun r_1_1 =>
      R r_0_1 r_1_1 w8) (
      LdI .i64 ⟨c_, 2, none⟩ w7 fun x31 =>
      LdI .i64 ⟨last_, 0, none⟩ w7 fun x33 =>
      Bm (x31 == x33) (
        LdI .i64 ⟨last_, 0, none⟩ w7 fun x35_0 =>
        LdI .i64 ⟨last_, 1, none⟩ w7 fun x35_1 =>
        LdI .i64 ⟨last_, 2, none⟩ w7 fun x35_2 =>
        LdI .u8 ⟨last_, 3, none⟩ w7 fun x35_3 =>
        LdI .u8 ⟨last_, 4, none⟩ w7 fun x35_4 =>
        LdI .u8 ⟨last_, 5, none⟩ w7 fun x35_5 =>
        kv_ansOf.Call x35_0 x35_1 x35_2 x35_3 x35_4 x35_5 w7 fun r36_0 r36_1 w9 =>
        Sts [.int .i64 r36_0, .string r36_1] ⟨b4, 0, none⟩ 0 w9 fun w10 =>
        LdI .i64 ⟨b4, 0, none⟩ w10 fun r_0_2 =>
        LdS ⟨b4, 1, none⟩ w10 fun r_1_2 =>
        R r_0_2 r_1_2 w10) (
        LdI .i64 ⟨c_, 0, none⟩ w7 fun x38_0 =>
        LdI .i64 ⟨c_, 1, none⟩ w7 fun x38_1 =>
        LdI .i64 ⟨c_, 2, none⟩ w7 fun x38_2 =>
        LdS ⟨c_, 3, none⟩ w7 fun x38_3 =>
        LdS ⟨c_, 4, none⟩ w7 fun x38_4 =>
        LdS ⟨c_, 5, none⟩ w7 fun x38_5 =>
        kv_KV_run.Call k x38_0 x38_1 x38_2 x38_3 x38_4 x38_5 w7 fun r39_0 r39_1 w11 =>
        New (.cells #[.int .i64 (0 : Int), .string (ByteArray.mk #[])] 93) w11 fun a_ w12 =>
        Sts [.int .i64 r39_0, .string r39_1] ⟨a_, 0, none⟩ 0 w12 fun w13 =>
        LdI .i64 ⟨c_, 1, none⟩ w13.drew fun x42 =>
        LdI .i64 ⟨c_, 2, none⟩ w13.drew fun x44 =>
        LdI .i64 ⟨a_, 0, none⟩ w13.drew fun x45_0 =>
        LdS ⟨a_, 1, none⟩ w13.drew fun x45_1 =>
        Pn k fun a_1 =>
        kv_mkSession.Call x44 x45_0 x45_1 w13.drew fun r46_0 r46_1 r46_2 r46_3 r46_4 r46_5 w14 =>
        w14.cell? ⟨c_, 1, none⟩ = some (.int .i64 x42) ∧
        (0 ≤ x42 ∧ x42 < ((3 : Nat) : Int)) ∧
        Sts [.int .i64 r46_0, .int .i64 r46_1, .int .i64 r46_2, .int .u8 r46_3, .int .u8 r46_4, .int .u8 r46_5] (Addr.add (a_1.add 66) (x42.toNat * 6)) 0 w14 fun w15 =>
        LdI .i64 ⟨a_, 0, none⟩ w15 fun x50_0 =>
        LdS ⟨a_, 1, none⟩ w15 fun x50_1 =>
        Sts [.int .i64 x50_0, .string x50_1] ⟨b4, 0, none⟩ 0 w15 fun w16 =>
        LdI .i64 ⟨b4, 0, none⟩ w16 fun r_0_3 =>
        LdS ⟨b4, 1, none⟩ w16 fun r_1_3 =>
        R r_0_3 r_1_3 w16)))) = kstep Tryz.prog 51 Tryz.f224.results.toList (Tryz.f224.body.getD .skip) (kv_KV_Apply.RV R) (kvc Tryz.prog 51 Tryz.f224.results.toList (Tryz.f224.body.getD .skip) (kv_KV_Apply.RV R) [] 2000) [(0, [])] [(0, .pointer k), (1, .string data)] w := by kernel_rfl
theorem kv_KV_Apply.B0_sound {R : Int → ByteArray → World → Prop}  (k : Option Addr) (data : ByteArray) (w : World) (h : kv_KV_Apply.B0 k data w   R) :
    KW Tryz.prog 224 51 (kv_KV_Apply.RV R) ([(0, [])].map (toItem (Tryz.f224.body.getD .skip))) [(0, .pointer k), (1, .string data)] w := by
  exact block_spec Tryz.func224 Tryz.mixed stops_nil (Eq.mp (kv_KV_Apply.B0_eq k data w   R ) h)
theorem kv_KV_Apply.sound (k : Option Addr) (data : ByteArray) (w : World) (R : Int → ByteArray → World → Prop) (h : kv_KV_Apply.B0 k data w R) : kv_KV_Apply.Call k data w R := by
  have hc := calls_of_block (args := #[.pointer k, .string data]) Tryz.func224 (body := (Tryz.f224.body.getD .skip)) (by kernel_rfl) (by kernel_rfl) (args_slot _) (kv_KV_Apply.B0_sound k data w h)
  exact hc.mono fun e w' he => by
    obtain ⟨v, rfl, hv⟩ := he
    exact kv_KV_Apply.RV_elim hv
def node_Node_answer.B1 (n : Option Addr) (a c : Nat) (t33 : Bool) (w : World)   (R : World → Prop) : Prop :=
  Bm t33 (
    LdI .i64 ⟨c, 1, none⟩ w fun x36 =>
    LdI .i64 ⟨a, 0, none⟩ w fun x37_0 =>
    LdS ⟨a, 1, none⟩ w fun x37_1 =>
    node_Node_reply.Call n x36 x37_0 x37_1 w fun w1 =>
    R  w1) (
    R  w)
theorem node_Node_answer.B1_eq (n : Option Addr) (a c : Nat) (t33 : Bool) (w : World)   (R : World → Prop)  :
    (
  Bm t33 (
    LdI .i64 ⟨c, 1, none⟩ w fun x36 =>
    LdI .i64 ⟨a, 0, none⟩ w fun x37_0 =>
    LdS ⟨a, 1, none⟩ w fun x37_1 =>
    node_Node_reply.Call n x36 x37_0 x37_1 w fun w1 =>
    R  w1) (
    R  w)) = kstep Tryz.prog 39 Tryz.f225.results.toList (Tryz.f225.body.getD .skip) (node_Node_answer.RV R) (kvc Tryz.prog 39 Tryz.f225.results.toList (Tryz.f225.body.getD .skip) (node_Node_answer.RV R) [] 2000) [(0, [1, 1, 1, 1])] [(0, .pointer n), (5, .pointer (some ⟨a, 0, none⟩)), (6, .pointer (some ⟨c, 0, none⟩)), (33, .bool t33)] w := by kernel_rfl
theorem node_Node_answer.B1_sound {R : World → Prop}  (n : Option Addr) (a c : Nat) (t33 : Bool) (w : World) (h : node_Node_answer.B1 n a c t33 w   R) :
    KW Tryz.prog 225 39 (node_Node_answer.RV R) ([(0, [1, 1, 1, 1])].map (toItem (Tryz.f225.body.getD .skip))) [(0, .pointer n), (5, .pointer (some ⟨a, 0, none⟩)), (6, .pointer (some ⟨c, 0, none⟩)), (33, .bool t33)] w := by
  exact block_spec Tryz.func225 Tryz.mixed stops_nil (Eq.mp (node_Node_answer.B1_eq n a c t33 w   R ) h)
def node_Node_answer.B0 (n : Option Addr) (data : ByteArray) (a_0 : Int) (a_1 : ByteArray) (w : World)   (R : World → Prop) : Prop :=
  New (.cells #[.int .i64 a_0, .string a_1] 93) w fun a_ w1 =>
  api_DecodeCmd.Call data w1 fun r10_0_0 r10_0_1 r10_0_2 r10_0_3 r10_0_4 r10_0_5 r10_1 w2 =>
  New (.cells #[.int .i64 (0 : Int), .int .i64 (0 : Int), .int .i64 (0 : Int), .string (ByteArray.mk #[]), .string (ByteArray.mk #[]), .string (ByteArray.mk #[])] 87) w2 fun c_ w3 =>
  Sts [.int .i64 r10_0_0, .int .i64 r10_0_1, .int .i64 r10_0_2, .string r10_0_3, .string r10_0_4, .string r10_0_5] ⟨c_, 0, none⟩ 0 w3 fun w4 =>
  Bm (r10_1 != (0 : Int)) (
    R  w4) (
    LdI .i64 ⟨c_, 1, none⟩ w4.drew fun x17 =>
    Pn n fun a =>
    (0 ≤ x17 ∧ x17 < ((3 : Nat) : Int)) ∧
    LdB (Addr.add (a.add 4) (x17.toNat * 1)) w4.drew fun x21 =>
    Bm x21 (
      LdI .i64 ⟨c_, 1, none⟩ w4.drew fun x25 =>
      Pn n fun a_2 =>
      (0 ≤ x25 ∧ x25 < ((3 : Nat) : Int)) ∧
      LdI .i64 (Addr.add (a_2.add 7) (x25.toNat * 1)) w4.drew fun x29 =>
      LdI .i64 ⟨c_, 2, none⟩ w4.drew fun x31 =>
      node_Node_answer.B1 n a_ c_ (x29 == x31) w4.drew  R) (
      node_Node_answer.B1 n a_ c_ false w4.drew  R))
theorem node_Node_answer.B0_eq (n : Option Addr) (data : ByteArray) (a_0 : Int) (a_1 : ByteArray) (w : World)   (R : World → Prop) (sB1 : Option Addr → Nat → Nat → Bool → World → Prop) :
    (
  New (.cells #[.int .i64 a_0, .string a_1] 93) w fun a_ w1 =>
  api_DecodeCmd.Call data w1 fun r10_0_0 r10_0_1 r10_0_2 r10_0_3 r10_0_4 r10_0_5 r10_1 w2 =>
  New (.cells #[.int .i64 (0 : Int), .int .i64 (0 : Int), .int .i64 (0 : Int), .string (ByteArray.mk #[]), .string (ByteArray.mk #[]), .string (ByteArray.mk #[])] 87) w2 fun c_ w3 =>
  Sts [.int .i64 r10_0_0, .int .i64 r10_0_1, .int .i64 r10_0_2, .string r10_0_3, .string r10_0_4, .string r10_0_5] ⟨c_, 0, none⟩ 0 w3 fun w4 =>
  Bm (r10_1 != (0 : Int)) (
    R  w4) (
    LdI .i64 ⟨c_, 1, none⟩ w4.drew fun x17 =>
    Pn n fun a =>
    (0 ≤ x17 ∧ x17 < ((3 : Nat) : Int)) ∧
    LdB (Addr.add (a.add 4) (x17.toNat * 1)) w4.drew fun x21 =>
    Bm x21 (
      LdI .i64 ⟨c_, 1, none⟩ w4.drew fun x25 =>
      Pn n fun a_2 =>
      (0 ≤ x25 ∧ x25 < ((3 : Nat) : Int)) ∧
      LdI .i64 (Addr.add (a_2.add 7) (x25.toNat * 1)) w4.drew fun x29 =>
      LdI .i64 ⟨c_, 2, none⟩ w4.drew fun x31 =>
      sB1 n a_ c_ (x29 == x31) w4.drew) (
      sB1 n a_ c_ false w4.drew))) = kstep Tryz.prog 39 Tryz.f225.results.toList (Tryz.f225.body.getD .skip) (node_Node_answer.RV R) (kvc Tryz.prog 39 Tryz.f225.results.toList (Tryz.f225.body.getD .skip) (node_Node_answer.RV R) [([(0, [1, 1, 1, 1])], fun σ w => dP (slotOf σ 0) fun n_ => dK (slotOf σ 5) fun a_ => dK (slotOf σ 6) fun c_ => dB (slotOf σ 33) fun t33_ => sB1 n_ a_ c_ t33_ w)] 2000) [(0, [])] [(0, .pointer n), (1, .string data), (2, .agg #[.int .i64 a_0, .string a_1])] w := by kernel_rfl
theorem node_Node_answer.B0_sound {R : World → Prop}  (n : Option Addr) (data : ByteArray) (a_0 : Int) (a_1 : ByteArray) (w : World) (h : node_Node_answer.B0 n data a_0 a_1 w   R) :
    KW Tryz.prog 225 39 (node_Node_answer.RV R) ([(0, [])].map (toItem (Tryz.f225.body.getD .skip))) [(0, .pointer n), (1, .string data), (2, .agg #[.int .i64 a_0, .string a_1])] w := by
  exact block_spec Tryz.func225 Tryz.mixed (stops_cons (fun σ w h => by
      obtain ⟨n_, e0, h⟩ := dP_elim h
      obtain ⟨a_, e1, h⟩ := dK_elim h
      obtain ⟨c_, e2, h⟩ := dK_elim h
      obtain ⟨t33_, e3, h⟩ := dB_elim h
      exact (node_Node_answer.B1_sound  n_ a_ c_ t33_ w h).weaken (Sub.cons (Sub.cons (Sub.cons (Sub.cons (Sub.nil _) e3) e2) e1) e0)) stops_nil) (Eq.mp (node_Node_answer.B0_eq n data a_0 a_1 w   R (fun n_ a_ c_ t33_ w => node_Node_answer.B1 n_ a_ c_ t33_ w  R)) h)
theorem node_Node_answer.sound (n : Option Addr) (data : ByteArray) (a_0 : Int) (a_1 : ByteArray) (w : World) (R : World → Prop) (h : node_Node_answer.B0 n data a_0 a_1 w R) : node_Node_answer.Call n data a_0 a_1 w R := by
  have hc := calls_of_block (args := #[.pointer n, .string data, .agg #[.int .i64 a_0, .string a_1]]) Tryz.func225 (body := (Tryz.f225.body.getD .skip)) (by kernel_rfl) (by kernel_rfl) (args_slot _) (node_Node_answer.B0_sound n data a_0 a_1 w h)
  exact hc.mono fun e w' he => by
    obtain ⟨v, rfl, hv⟩ := he
    exact node_Node_answer.RV_elim hv
end Go.Proofs.Qxb6500430aGreat
