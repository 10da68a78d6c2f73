import Derived.Test.Qxb6500430aGreatSig
set_option maxRecDepth 100000
set_option linter.unusedVariables false
open Go.Vc
namespace Go.Proofs.Qxb6500430aGreat
def sync_Sync_snapCame.B0 (s : Option Addr) (m0_0 m0_1 m0_2 m0_3 m0_4 m0_5 m0_6 : Int) (m0_7 : Bool) (m0_8_b : Option Addr) (m0_8_l m0_8_c : Nat) (m0_9 : ByteArray) (w : World)   (R : World → Prop) : Prop :=
  New (.cells #[.int .i64 m0_0, .int .i64 m0_1, .int .i64 m0_2, .int .i64 m0_3, .int .i64 m0_4, .int .i64 m0_5, .int .i64 m0_6, .bool m0_7, .slice m0_8_b m0_8_l m0_8_c, .string m0_9] 101) w fun m0_ w1 =>
  Pn s fun a =>
  LdP (a.add 1) w1.drew fun x9 =>
  LdI .i64 ⟨m0_, 1, none⟩ w1.drew fun x11 =>
  LdI .i64 ⟨m0_, 3, none⟩ w1.drew fun x13 =>
  elect_Elect_Heard.Call x9 x11 x13 w1.drew fun r14 w2 =>
  sync_Sync_persist.Call s w2 fun w3 =>
  Bm (!r14) (
    LdI .i64 ⟨m0_, 1, none⟩ w3 fun x21 =>
    sync_Sync_reply.Call s (4 : Int) x21 false (0 : Int) w3 fun w4 =>
    R  w4) (
    LdI .i64 ⟨m0_, 4, none⟩ w3.drew fun x24 =>
    Pn s fun a_1 =>
    LdI .i64 (a_1.add 2) w3.drew fun x28 =>
    Bm (decide (x24 ≤ x28)) (
      LdI .i64 ⟨m0_, 1, none⟩ w3.drew.drew fun x32 =>
      Pn s fun a_2 =>
      LdI .i64 (a_2.add 2) w3.drew.drew fun x36 =>
      sync_Sync_reply.Call s (4 : Int) x32 true x36 w3.drew.drew fun w5 =>
      R  w5) (
      Pn s fun a_3 =>
      LdP a_3 w3.drew.drew fun x41 =>
      LdI .i64 ⟨m0_, 4, none⟩ w3.drew.drew fun x43 =>
      LdI .i64 ⟨m0_, 5, none⟩ w3.drew.drew fun x45 =>
      LdS ⟨m0_, 9, none⟩ w3.drew.drew fun x47 =>
      rlog_Log_Install.Call x41 x43 x45 x47 w3.drew.drew fun r48 w6 =>
      Bm (r48 != (0 : Int)) (
        LdI .i64 ⟨m0_, 1, none⟩ w6 fun x53 =>
        sync_Sync_reply.Call s (4 : Int) x53 false (0 : Int) w6 fun w7 =>
        R  w7) (
        sync_Sync_refresh.Call s w6 fun w8 =>
        LdI .i64 ⟨m0_, 4, none⟩ w8 fun x59 =>
        Pn s fun a_4 =>
        Sts [.int .i64 x59] (a_4.add 2) 0 w8 fun w9 =>
        LdI .i64 ⟨m0_, 1, none⟩ w9 fun x64 =>
        LdI .i64 ⟨m0_, 4, none⟩ w9 fun x66 =>
        sync_Sync_reply.Call s (4 : Int) x64 true x66 w9 fun w10 =>
        R  w10)))
theorem sync_Sync_snapCame.B0_eq (s : Option Addr) (m0_0 m0_1 m0_2 m0_3 m0_4 m0_5 m0_6 : Int) (m0_7 : Bool) (m0_8_b : Option Addr) (m0_8_l m0_8_c : Nat) (m0_9 : ByteArray) (w : World)   (R : World → Prop)  :
    (
  New (.cells #[.int .i64 m0_0, .int .i64 m0_1, .int .i64 m0_2, .int .i64 m0_3, .int .i64 m0_4, .int .i64 m0_5, .int .i64 m0_6, .bool m0_7, .slice m0_8_b m0_8_l m0_8_c, .string m0_9] 101) w fun m0_ w1 =>
  Pn s fun a =>
  LdP (a.add 1) w1.drew fun x9 =>
  LdI .i64 ⟨m0_, 1, none⟩ w1.drew fun x11 =>
  LdI .i64 ⟨m0_, 3, none⟩ w1.drew fun x13 =>
  elect_Elect_Heard.Call x9 x11 x13 w1.drew fun r14 w2 =>
  sync_Sync_persist.Call s w2 fun w3 =>
  Bm (!r14) (
    LdI .i64 ⟨m0_, 1, none⟩ w3 fun x21 =>
    sync_Sync_reply.Call s (4 : Int) x21 false (0 : Int) w3 fun w4 =>
    R  w4) (
    LdI .i64 ⟨m0_, 4, none⟩ w3.drew fun x24 =>
    Pn s fun a_1 =>
    LdI .i64 (a_1.add 2) w3.drew fun x28 =>
    Bm (decide (x24 ≤ x28)) (
      LdI .i64 ⟨m0_, 1, none⟩ w3.drew.drew fun x32 =>
      Pn s fun a_2 =>
      LdI .i64 (a_2.add 2) w3.drew.drew fun x36 =>
      sync_Sync_reply.Call s (4 : Int) x32 true x36 w3.drew.drew fun w5 =>
      R  w5) (
      Pn s fun a_3 =>
      LdP a_3 w3.drew.drew fun x41 =>
      LdI .i64 ⟨m0_, 4, none⟩ w3.drew.drew fun x43 =>
      LdI .i64 ⟨m0_, 5, none⟩ w3.drew.drew fun x45 =>
      LdS ⟨m0_, 9, none⟩ w3.drew.drew fun x47 =>
      rlog_Log_Install.Call x41 x43 x45 x47 w3.drew.drew fun r48 w6 =>
      Bm (r48 != (0 : Int)) (
        LdI .i64 ⟨m0_, 1, none⟩ w6 fun x53 =>
        sync_Sync_reply.Call s (4 : Int) x53 false (0 : Int) w6 fun w7 =>
        R  w7) (
        sync_Sync_refresh.Call s w6 fun w8 =>
        LdI .i64 ⟨m0_, 4, none⟩ w8 fun x59 =>
        Pn s fun a_4 =>
        Sts [.int .i64 x59] (a_4.add 2) 0 w8 fun w9 =>
        LdI .i64 ⟨m0_, 1, none⟩ w9 fun x64 =>
        LdI .i64 ⟨m0_, 4, none⟩ w9 fun x66 =>
        sync_Sync_reply.Call s (4 : Int) x64 true x66 w9 fun w10 =>
        R  w10)))) = kstep Tryz.prog 68 Tryz.f156.results.toList (Tryz.f156.body.getD .skip) (sync_Sync_snapCame.RV R) (kvc Tryz.prog 68 Tryz.f156.results.toList (Tryz.f156.body.getD .skip) (sync_Sync_snapCame.RV R) [] 2000) [(0, [])] [(0, .pointer s), (1, .agg #[.int .i64 m0_0, .int .i64 m0_1, .int .i64 m0_2, .int .i64 m0_3, .int .i64 m0_4, .int .i64 m0_5, .int .i64 m0_6, .bool m0_7, .slice m0_8_b m0_8_l m0_8_c, .string m0_9])] w := by kernel_rfl
theorem sync_Sync_snapCame.B0_sound {R : World → Prop}  (s : Option Addr) (m0_0 m0_1 m0_2 m0_3 m0_4 m0_5 m0_6 : Int) (m0_7 : Bool) (m0_8_b : Option Addr) (m0_8_l m0_8_c : Nat) (m0_9 : ByteArray) (w : World) (h : sync_Sync_snapCame.B0 s m0_0 m0_1 m0_2 m0_3 m0_4 m0_5 m0_6 m0_7 m0_8_b m0_8_l m0_8_c m0_9 w   R) :
    KW Tryz.prog 156 68 (sync_Sync_snapCame.RV R) ([(0, [])].map (toItem (Tryz.f156.body.getD .skip))) [(0, .pointer s), (1, .agg #[.int .i64 m0_0, .int .i64 m0_1, .int .i64 m0_2, .int .i64 m0_3, .int .i64 m0_4, .int .i64 m0_5, .int .i64 m0_6, .bool m0_7, .slice m0_8_b m0_8_l m0_8_c, .string m0_9])] w := by
  exact block_spec Tryz.func156 Tryz.mixed stops_nil (Eq.mp (sync_Sync_snapCame.B0_eq s m0_0 m0_1 m0_2 m0_3 m0_4 m0_5 m0_6 m0_7 m0_8_b m0_8_l m0_8_c m0_9 w   R ) h)
theorem sync_Sync_snapCame.sound (s : Option Addr) (m0_0 m0_1 m0_2 m0_3 m0_4 m0_5 m0_6 : Int) (m0_7 : Bool) (m0_8_b : Option Addr) (m0_8_l m0_8_c : Nat) (m0_9 : ByteArray) (w : World) (R : World → Prop) (h : sync_Sync_snapCame.B0 s m0_0 m0_1 m0_2 m0_3 m0_4 m0_5 m0_6 m0_7 m0_8_b m0_8_l m0_8_c m0_9 w R) : sync_Sync_snapCame.Call s m0_0 m0_1 m0_2 m0_3 m0_4 m0_5 m0_6 m0_7 m0_8_b m0_8_l m0_8_c m0_9 w R := by
  have hc := calls_of_block (args := #[.pointer s, .agg #[.int .i64 m0_0, .int .i64 m0_1, .int .i64 m0_2, .int .i64 m0_3, .int .i64 m0_4, .int .i64 m0_5, .int .i64 m0_6, .bool m0_7, .slice m0_8_b m0_8_l m0_8_c, .string m0_9]]) Tryz.func156 (body := (Tryz.f156.body.getD .skip)) (by kernel_rfl) (by kernel_rfl) (args_slot _) (sync_Sync_snapCame.B0_sound s m0_0 m0_1 m0_2 m0_3 m0_4 m0_5 m0_6 m0_7 m0_8_b m0_8_l m0_8_c m0_9 w h)
  exact hc.mono fun e w' he => by
    obtain ⟨v, rfl, hv⟩ := he
    exact sync_Sync_snapCame.RV_elim hv
def sync_Sync_ackCame.B1 (s : Option Addr) (m0 : Nat) (t34 : Bool) (w : World)   (R : World → Prop) : Prop :=
  Bm t34 (
    R  w) (
    LdB ⟨m0, 7, none⟩ w fun x36 =>
    Bm x36 (
      LdI .i64 ⟨m0, 1, none⟩ w fun x39 =>
      LdI .i64 ⟨m0, 4, none⟩ w fun x41 =>
      sync_Sync_acked.Call s x39 x41 w fun w1 =>
      R  w1) (
      LdI .i64 ⟨m0, 1, none⟩ w fun x45 =>
      LdI .i64 ⟨m0, 4, none⟩ w fun x47 =>
      sync_Sync_refused.Call s x45 x47 w fun w2 =>
      R  w2))
theorem sync_Sync_ackCame.B1_eq (s : Option Addr) (m0 : Nat) (t34 : Bool) (w : World)   (R : World → Prop)  :
    (
  Bm t34 (
    R  w) (
    LdB ⟨m0, 7, none⟩ w fun x36 =>
    Bm x36 (
      LdI .i64 ⟨m0, 1, none⟩ w fun x39 =>
      LdI .i64 ⟨m0, 4, none⟩ w fun x41 =>
      sync_Sync_acked.Call s x39 x41 w fun w1 =>
      R  w1) (
      LdI .i64 ⟨m0, 1, none⟩ w fun x45 =>
      LdI .i64 ⟨m0, 4, none⟩ w fun x47 =>
      sync_Sync_refused.Call s x45 x47 w fun w2 =>
      R  w2))) = kstep Tryz.prog 49 Tryz.f157.results.toList (Tryz.f157.body.getD .skip) (sync_Sync_ackCame.RV R) (kvc Tryz.prog 49 Tryz.f157.results.toList (Tryz.f157.body.getD .skip) (sync_Sync_ackCame.RV R) [] 2000) [(0, [1, 1, 1, 1, 1, 0, 1]), (0, [1, 1, 1, 1, 1, 1])] [(0, .pointer s), (3, .pointer (some ⟨m0, 0, none⟩)), (34, .bool t34)] w := by kernel_rfl
theorem sync_Sync_ackCame.B1_sound {R : World → Prop}  (s : Option Addr) (m0 : Nat) (t34 : Bool) (w : World) (h : sync_Sync_ackCame.B1 s m0 t34 w   R) :
    KW Tryz.prog 157 49 (sync_Sync_ackCame.RV R) ([(0, [1, 1, 1, 1, 1, 0, 1]), (0, [1, 1, 1, 1, 1, 1])].map (toItem (Tryz.f157.body.getD .skip))) [(0, .pointer s), (3, .pointer (some ⟨m0, 0, none⟩)), (34, .bool t34)] w := by
  exact block_spec Tryz.func157 Tryz.mixed stops_nil (Eq.mp (sync_Sync_ackCame.B1_eq s m0 t34 w   R ) h)
def sync_Sync_ackCame.B0 (s : Option Addr) (m0_0 m0_1 m0_2 m0_3 m0_4 m0_5 m0_6 : Int) (m0_7 : Bool) (m0_8_b : Option Addr) (m0_8_l m0_8_c : Nat) (m0_9 : ByteArray) (w : World)   (R : World → Prop) : Prop :=
  New (.cells #[.int .i64 m0_0, .int .i64 m0_1, .int .i64 m0_2, .int .i64 m0_3, .int .i64 m0_4, .int .i64 m0_5, .int .i64 m0_6, .bool m0_7, .slice m0_8_b m0_8_l m0_8_c, .string m0_9] 101) w fun m0_ w1 =>
  Pn s fun a =>
  LdP (a.add 1) w1.drew fun x10 =>
  LdI .i64 ⟨m0_, 3, none⟩ w1.drew fun x12 =>
  elect_Elect_See.Call x10 x12 w1.drew fun r13 w2 =>
  Bm r13 (
    sync_Sync_persist.Call s w2 fun w3 =>
    R  w3) (
    Pn s fun a_1 =>
    LdP (a_1.add 1) w2 fun x20 =>
    elect_Elect_Role.Call x20 w2 fun r21 w4 =>
    Pn s fun a_2 =>
    LdP (a_2.add 1) w4 fun x25 =>
    elect_Elect_Term.Call x25 w4 fun r26 w5 =>
    Bm (r21 != (2 : Int)) (
      sync_Sync_ackCame.B1 s m0_ true w5  R) (
      LdI .i64 ⟨m0_, 3, none⟩ w5 fun x31 =>
      sync_Sync_ackCame.B1 s m0_ (x31 != r26) w5  R))
theorem sync_Sync_ackCame.B0_eq (s : Option Addr) (m0_0 m0_1 m0_2 m0_3 m0_4 m0_5 m0_6 : Int) (m0_7 : Bool) (m0_8_b : Option Addr) (m0_8_l m0_8_c : Nat) (m0_9 : ByteArray) (w : World)   (R : World → Prop) (sB1 : Option Addr → Nat → Bool → World → Prop) :
    (
  New (.cells #[.int .i64 m0_0, .int .i64 m0_1, .int .i64 m0_2, .int .i64 m0_3, .int .i64 m0_4, .int .i64 m0_5, .int .i64 m0_6, .bool m0_7, .slice m0_8_b m0_8_l m0_8_c, .string m0_9] 101) w fun m0_ w1 =>
  Pn s fun a =>
  LdP (a.add 1) w1.drew fun x10 =>
  LdI .i64 ⟨m0_, 3, none⟩ w1.drew fun x12 =>
  elect_Elect_See.Call x10 x12 w1.drew fun r13 w2 =>
  Bm r13 (
    sync_Sync_persist.Call s w2 fun w3 =>
    R  w3) (
    Pn s fun a_1 =>
    LdP (a_1.add 1) w2 fun x20 =>
    elect_Elect_Role.Call x20 w2 fun r21 w4 =>
    Pn s fun a_2 =>
    LdP (a_2.add 1) w4 fun x25 =>
    elect_Elect_Term.Call x25 w4 fun r26 w5 =>
    Bm (r21 != (2 : Int)) (
      sB1 s m0_ true w5) (
      LdI .i64 ⟨m0_, 3, none⟩ w5 fun x31 =>
      sB1 s m0_ (x31 != r26) w5))) = kstep Tryz.prog 49 Tryz.f157.results.toList (Tryz.f157.body.getD .skip) (sync_Sync_ackCame.RV R) (kvc Tryz.prog 49 Tryz.f157.results.toList (Tryz.f157.body.getD .skip) (sync_Sync_ackCame.RV R) [([(0, [1, 1, 1, 1, 1, 0, 1]), (0, [1, 1, 1, 1, 1, 1])], fun σ w => dP (slotOf σ 0) fun s_ => dK (slotOf σ 3) fun m0_ => dB (slotOf σ 34) fun t34_ => sB1 s_ m0_ t34_ w)] 2000) [(0, [])] [(0, .pointer s), (1, .agg #[.int .i64 m0_0, .int .i64 m0_1, .int .i64 m0_2, .int .i64 m0_3, .int .i64 m0_4, .int .i64 m0_5, .int .i64 m0_6, .bool m0_7, .slice m0_8_b m0_8_l m0_8_c, .string m0_9])] w := by kernel_rfl
theorem sync_Sync_ackCame.B0_sound {R : World → Prop}  (s : Option Addr) (m0_0 m0_1 m0_2 m0_3 m0_4 m0_5 m0_6 : Int) (m0_7 : Bool) (m0_8_b : Option Addr) (m0_8_l m0_8_c : Nat) (m0_9 : ByteArray) (w : World) (h : sync_Sync_ackCame.B0 s m0_0 m0_1 m0_2 m0_3 m0_4 m0_5 m0_6 m0_7 m0_8_b m0_8_l m0_8_c m0_9 w   R) :
    KW Tryz.prog 157 49 (sync_Sync_ackCame.RV R) ([(0, [])].map (toItem (Tryz.f157.body.getD .skip))) [(0, .pointer s), (1, .agg #[.int .i64 m0_0, .int .i64 m0_1, .int .i64 m0_2, .int .i64 m0_3, .int .i64 m0_4, .int .i64 m0_5, .int .i64 m0_6, .bool m0_7, .slice m0_8_b m0_8_l m0_8_c, .string m0_9])] w := by
  exact block_spec Tryz.func157 Tryz.mixed (stops_cons (fun σ w h => by
      obtain ⟨s_, e0, h⟩ := dP_elim h
      obtain ⟨m0_, e1, h⟩ := dK_elim h
      obtain ⟨t34_, e2, h⟩ := dB_elim h
      exact (sync_Sync_ackCame.B1_sound  s_ m0_ t34_ w h).weaken (Sub.cons (Sub.cons (Sub.cons (Sub.nil _) e2) e1) e0)) stops_nil) (Eq.mp (sync_Sync_ackCame.B0_eq s m0_0 m0_1 m0_2 m0_3 m0_4 m0_5 m0_6 m0_7 m0_8_b m0_8_l m0_8_c m0_9 w   R (fun s_ m0_ t34_ w => sync_Sync_ackCame.B1 s_ m0_ t34_ w  R)) h)
theorem sync_Sync_ackCame.sound (s : Option Addr) (m0_0 m0_1 m0_2 m0_3 m0_4 m0_5 m0_6 : Int) (m0_7 : Bool) (m0_8_b : Option Addr) (m0_8_l m0_8_c : Nat) (m0_9 : ByteArray) (w : World) (R : World → Prop) (h : sync_Sync_ackCame.B0 s m0_0 m0_1 m0_2 m0_3 m0_4 m0_5 m0_6 m0_7 m0_8_b m0_8_l m0_8_c m0_9 w R) : sync_Sync_ackCame.Call s m0_0 m0_1 m0_2 m0_3 m0_4 m0_5 m0_6 m0_7 m0_8_b m0_8_l m0_8_c m0_9 w R := by
  have hc := calls_of_block (args := #[.pointer s, .agg #[.int .i64 m0_0, .int .i64 m0_1, .int .i64 m0_2, .int .i64 m0_3, .int .i64 m0_4, .int .i64 m0_5, .int .i64 m0_6, .bool m0_7, .slice m0_8_b m0_8_l m0_8_c, .string m0_9]]) Tryz.func157 (body := (Tryz.f157.body.getD .skip)) (by kernel_rfl) (by kernel_rfl) (args_slot _) (sync_Sync_ackCame.B0_sound s m0_0 m0_1 m0_2 m0_3 m0_4 m0_5 m0_6 m0_7 m0_8_b m0_8_l m0_8_c m0_9 w h)
  exact hc.mono fun e w' he => by
    obtain ⟨v, rfl, hv⟩ := he
    exact sync_Sync_ackCame.RV_elim hv
def api_PutU64.B0 (b_b : Option Addr) (b_l b_c : Nat) (v : Int) (w : World)   (R : Option Addr → Nat → Nat → World → Prop) : Prop :=
  0 ≤ (56 : Int) ∧
  0 ≤ (48 : Int) ∧
  0 ≤ (40 : Int) ∧
  0 ≤ (32 : Int) ∧
  0 ≤ (24 : Int) ∧
  0 ≤ (16 : Int) ∧
  0 ≤ (8 : Int) ∧
  New (.cells #[.int .u8 (IntKind.u8.wrap ((IntKind.u64.wrap v).fdiv (2 ^ (min (56 : Int).toNat IntKind.u64.bits)))), .int .u8 (IntKind.u8.wrap ((IntKind.u64.wrap v).fdiv (2 ^ (min (48 : Int).toNat IntKind.u64.bits)))), .int .u8 (IntKind.u8.wrap ((IntKind.u64.wrap v).fdiv (2 ^ (min (40 : Int).toNat IntKind.u64.bits)))), .int .u8 (IntKind.u8.wrap ((IntKind.u64.wrap v).fdiv (2 ^ (min (32 : Int).toNat IntKind.u64.bits)))), .int .u8 (IntKind.u8.wrap ((IntKind.u64.wrap v).fdiv (2 ^ (min (24 : Int).toNat IntKind.u64.bits)))), .int .u8 (IntKind.u8.wrap ((IntKind.u64.wrap v).fdiv (2 ^ (min (16 : Int).toNat IntKind.u64.bits)))), .int .u8 (IntKind.u8.wrap ((IntKind.u64.wrap v).fdiv (2 ^ (min (8 : Int).toNat IntKind.u64.bits)))), .int .u8 (IntKind.u8.wrap (IntKind.u64.wrap v))] 5) w fun b32 w1 =>
  Append 5 (.int .u8 (0 : Int)) 1 1 b_b b_l b_c (some ⟨b32, 0, none⟩) 8 w1 fun b33 c33 w2 =>
  R b33 (b_l + 8) c33 w2
theorem api_PutU64.B0_eq (b_b : Option Addr) (b_l b_c : Nat) (v : Int) (w : World)   (R : Option Addr → Nat → Nat → World → Prop)  :
    (
  0 ≤ (56 : Int) ∧
  0 ≤ (48 : Int) ∧
  0 ≤ (40 : Int) ∧
  0 ≤ (32 : Int) ∧
  0 ≤ (24 : Int) ∧
  0 ≤ (16 : Int) ∧
  0 ≤ (8 : Int) ∧
  New (.cells #[.int .u8 (IntKind.u8.wrap ((IntKind.u64.wrap v).fdiv (2 ^ (min (56 : Int).toNat IntKind.u64.bits)))), .int .u8 (IntKind.u8.wrap ((IntKind.u64.wrap v).fdiv (2 ^ (min (48 : Int).toNat IntKind.u64.bits)))), .int .u8 (IntKind.u8.wrap ((IntKind.u64.wrap v).fdiv (2 ^ (min (40 : Int).toNat IntKind.u64.bits)))), .int .u8 (IntKind.u8.wrap ((IntKind.u64.wrap v).fdiv (2 ^ (min (32 : Int).toNat IntKind.u64.bits)))), .int .u8 (IntKind.u8.wrap ((IntKind.u64.wrap v).fdiv (2 ^ (min (24 : Int).toNat IntKind.u64.bits)))), .int .u8 (IntKind.u8.wrap ((IntKind.u64.wrap v).fdiv (2 ^ (min (16 : Int).toNat IntKind.u64.bits)))), .int .u8 (IntKind.u8.wrap ((IntKind.u64.wrap v).fdiv (2 ^ (min (8 : Int).toNat IntKind.u64.bits)))), .int .u8 (IntKind.u8.wrap (IntKind.u64.wrap v))] 5) w fun b32 w1 =>
  Append 5 (.int .u8 (0 : Int)) 1 1 b_b b_l b_c (some ⟨b32, 0, none⟩) 8 w1 fun b33 c33 w2 =>
  R b33 (b_l + 8) c33 w2) = kstep Tryz.prog 34 Tryz.f158.results.toList (Tryz.f158.body.getD .skip) (api_PutU64.RV R) (kvc Tryz.prog 34 Tryz.f158.results.toList (Tryz.f158.body.getD .skip) (api_PutU64.RV R) [] 2000) [(0, [])] [(0, .slice b_b b_l b_c), (1, .int .i64 v)] w := by kernel_rfl
theorem api_PutU64.B0_sound {R : Option Addr → Nat → Nat → World → Prop}  (b_b : Option Addr) (b_l b_c : Nat) (v : Int) (w : World) (h : api_PutU64.B0 b_b b_l b_c v w   R) :
    KW Tryz.prog 158 34 (api_PutU64.RV R) ([(0, [])].map (toItem (Tryz.f158.body.getD .skip))) [(0, .slice b_b b_l b_c), (1, .int .i64 v)] w := by
  exact block_spec Tryz.func158 Tryz.mixed stops_nil (Eq.mp (api_PutU64.B0_eq b_b b_l b_c v w   R ) h)
theorem api_PutU64.sound (b_b : Option Addr) (b_l b_c : Nat) (v : Int) (w : World) (R : Option Addr → Nat → Nat → World → Prop) (h : api_PutU64.B0 b_b b_l b_c v w R) : api_PutU64.Call b_b b_l b_c v w R := by
  have hc := calls_of_block (args := #[.slice b_b b_l b_c, .int .i64 v]) Tryz.func158 (body := (Tryz.f158.body.getD .skip)) (by kernel_rfl) (by kernel_rfl) (args_slot _) (api_PutU64.B0_sound b_b b_l b_c v w h)
  exact hc.mono fun e w' he => by
    obtain ⟨v, rfl, hv⟩ := he
    exact api_PutU64.RV_elim hv
def api_putStr.L1b (b_b : Option Addr) (b_l b_c : Nat) (s : ByteArray) (i : Int) (w : World)  (N1 : Option Addr → Nat → Nat → ByteArray → Int → World → Prop) (R : Option Addr → Nat → Nat → World → Prop) : Prop :=
  Bm (decide (i < ((s.size : Nat) : Int))) (
    (0 ≤ i ∧ i < ((s.size : Nat) : Int)) ∧
    New (.cells #[.int .u8 (byteAt s i)] 5) w fun b22 w1 =>
    Append 5 (.int .u8 (0 : Int)) 1 1 b_b b_l b_c (some ⟨b22, 0, none⟩) 1 w1 fun b23 c23 w2 =>
    N1 b23 (b_l + 1) c23 s (IntKind.i64.wrap (i + (1 : Int))) w2) (
    R b_b b_l b_c w)
theorem api_putStr.L1b_eq (b_b : Option Addr) (b_l b_c : Nat) (s : ByteArray) (i : Int) (w : World)  (N1 : Option Addr → Nat → Nat → ByteArray → Int → World → Prop) (R : Option Addr → Nat → Nat → World → Prop)  :
    (
  Bm (decide (i < ((s.size : Nat) : Int))) (
    (0 ≤ i ∧ i < ((s.size : Nat) : Int)) ∧
    New (.cells #[.int .u8 (byteAt s i)] 5) w fun b22 w1 =>
    Append 5 (.int .u8 (0 : Int)) 1 1 b_b b_l b_c (some ⟨b22, 0, none⟩) 1 w1 fun b23 c23 w2 =>
    N1 b23 (b_l + 1) c23 s (IntKind.i64.wrap (i + (1 : Int))) w2) (
    R b_b b_l b_c w)) = kstep Tryz.prog 25 Tryz.f159.results.toList (Tryz.f159.body.getD .skip) (api_putStr.RV R) (kvc Tryz.prog 25 Tryz.f159.results.toList (Tryz.f159.body.getD .skip) (api_putStr.RV R) [([(0, [1, 1, 0, 1, 0, 0]), (2, [1, 1, 0, 1, 0, 0]), (1, [0]), (0, [1, 1, 1])], fun σ w => dL (slotOf σ 0) fun b_b_ b_l_ b_c_ => dS (slotOf σ 1) fun s_ => dI .i64 (slotOf σ 5) fun i_ => N1 b_b_ b_l_ b_c_ s_ i_ w)] 2000) [(0, [1, 1, 0, 1, 0, 0]), (2, [1, 1, 0, 1, 0, 0]), (1, [0]), (0, [1, 1, 1])] [(0, .slice b_b b_l b_c), (1, .string s), (5, .int .i64 i)] w := by kernel_rfl
theorem api_putStr.L1b_sound {R : Option Addr → Nat → Nat → World → Prop} {N1 : Option Addr → Nat → Nat → ByteArray → Int → World → Prop} (hN1 : ∀ b_b b_l b_c s i w, N1 b_b b_l b_c s i w → KW Tryz.prog 159 25 (api_putStr.RV R) ([(0, [1, 1, 0, 1, 0, 0]), (2, [1, 1, 0, 1, 0, 0]), (1, [0]), (0, [1, 1, 1])].map (toItem (Tryz.f159.body.getD .skip))) [(0, .slice b_b b_l b_c), (1, .string s), (5, .int .i64 i)] w) (b_b : Option Addr) (b_l b_c : Nat) (s : ByteArray) (i : Int) (w : World) (h : api_putStr.L1b b_b b_l b_c s i w  N1 R) :
    KW Tryz.prog 159 25 (api_putStr.RV R) ([(0, [1, 1, 0, 1, 0, 0]), (2, [1, 1, 0, 1, 0, 0]), (1, [0]), (0, [1, 1, 1])].map (toItem (Tryz.f159.body.getD .skip))) [(0, .slice b_b b_l b_c), (1, .string s), (5, .int .i64 i)] w := by
  exact block_spec Tryz.func159 Tryz.mixed (stops_cons (fun σ w h => by
      obtain ⟨b_b_, b_l_, b_c_, e0, h⟩ := dL_elim h
      obtain ⟨s_, e1, h⟩ := dS_elim h
      obtain ⟨i_, e2, h⟩ := dI_elim h
      exact (hN1 b_b_ b_l_ b_c_ s_ i_ w h).weaken (Sub.cons (Sub.cons (Sub.cons (Sub.nil _) e2) e1) e0)) stops_nil) (Eq.mp (api_putStr.L1b_eq b_b b_l b_c s i w  N1 R ) h)
def api_putStr.L1 (b_b : Option Addr) (b_l b_c : Nat) (s : ByteArray) (i : Int) (w : World)  (R : Option Addr → Nat → Nat → World → Prop) : Prop :=
  ∃ (I : Nat → Option Addr → Nat → Nat → ByteArray → Int → World → Prop) (m : Nat), I m b_b b_l b_c s i w ∧ ∀ m b_b b_l b_c s i w, I m b_b b_l b_c s i w → api_putStr.L1b b_b b_l b_c s i w  (fun b_b' b_l' b_c' s' i' w' => ∃ m', m' < m ∧ I m' b_b' b_l' b_c' s' i' w') R
theorem api_putStr.L1_sound {R : Option Addr → Nat → Nat → World → Prop}  (b_b : Option Addr) (b_l b_c : Nat) (s : ByteArray) (i : Int) (w : World) (h : api_putStr.L1 b_b b_l b_c s i w  R) :
    KW Tryz.prog 159 25 (api_putStr.RV R) ([(0, [1, 1, 0, 1, 0, 0]), (2, [1, 1, 0, 1, 0, 0]), (1, [0]), (0, [1, 1, 1])].map (toItem (Tryz.f159.body.getD .skip))) [(0, .slice b_b b_l b_c), (1, .string s), (5, .int .i64 i)] w := by
  obtain ⟨I, m, hBase, hr⟩ := h
  refine KW.loop (fun m σ w => ∃ (b_b : Option Addr) (b_l b_c : Nat) (s : ByteArray) (i : Int), σ = [(0, .slice b_b b_l b_c), (1, .string s), (5, .int .i64 i)] ∧ I m b_b b_l b_c s i w) ?_ m _ w ⟨b_b, b_l, b_c, s, i, rfl, hBase⟩
  rintro m ih σ w ⟨b_b, b_l, b_c, s, i, rfl, hI⟩
  exact api_putStr.L1b_sound  (N1 := fun b_b' b_l' b_c' s' i' w' => ∃ m', m' < m ∧ I m' b_b' b_l' b_c' s' i' w') (fun b_b' b_l' b_c' s' i' w' hx => by obtain ⟨m', hlt, hI'⟩ := hx; exact ih m' hlt _ w' ⟨b_b', b_l', b_c', s', i', rfl, hI'⟩) b_b b_l b_c s i w (hr m b_b b_l b_c s i w hI)
def api_putStr.B0 (b_b : Option Addr) (b_l b_c : Nat) (s : ByteArray) (w : World)   (R : Option Addr → Nat → Nat → World → Prop) : Prop :=
  New (.cells #[.int .u8 (IntKind.u8.wrap ((s.size : Nat) : Int))] 5) w fun b10 w1 =>
  Append 5 (.int .u8 (0 : Int)) 1 1 b_b b_l b_c (some ⟨b10, 0, none⟩) 1 w1 fun b11 c11 w2 =>
  api_putStr.L1 b11 (b_l + 1) c11 s (0 : Int) w2  R
theorem api_putStr.B0_eq (b_b : Option Addr) (b_l b_c : Nat) (s : ByteArray) (w : World)   (R : Option Addr → Nat → Nat → World → Prop) (sL1 : Option Addr → Nat → Nat → ByteArray → Int → World → Prop) :
    (
  New (.cells #[.int .u8 (IntKind.u8.wrap ((s.size : Nat) : Int))] 5) w fun b10 w1 =>
  Append 5 (.int .u8 (0 : Int)) 1 1 b_b b_l b_c (some ⟨b10, 0, none⟩) 1 w1 fun b11 c11 w2 =>
  sL1 b11 (b_l + 1) c11 s (0 : Int) w2) = kstep Tryz.prog 25 Tryz.f159.results.toList (Tryz.f159.body.getD .skip) (api_putStr.RV R) (kvc Tryz.prog 25 Tryz.f159.results.toList (Tryz.f159.body.getD .skip) (api_putStr.RV R) [([(0, [1, 1, 0, 1, 0, 0]), (2, [1, 1, 0, 1, 0, 0]), (1, [0]), (0, [1, 1, 1])], fun σ w => dL (slotOf σ 0) fun b_b_ b_l_ b_c_ => dS (slotOf σ 1) fun s_ => dI .i64 (slotOf σ 5) fun i_ => sL1 b_b_ b_l_ b_c_ s_ i_ w)] 2000) [(0, [])] [(0, .slice b_b b_l b_c), (1, .string s)] w := by kernel_rfl
theorem api_putStr.B0_sound {R : Option Addr → Nat → Nat → World → Prop}  (b_b : Option Addr) (b_l b_c : Nat) (s : ByteArray) (w : World) (h : api_putStr.B0 b_b b_l b_c s w   R) :
    KW Tryz.prog 159 25 (api_putStr.RV R) ([(0, [])].map (toItem (Tryz.f159.body.getD .skip))) [(0, .slice b_b b_l b_c), (1, .string s)] w := by
  exact block_spec Tryz.func159 Tryz.mixed (stops_cons (fun σ w h => by
      obtain ⟨b_b_, b_l_, b_c_, e0, h⟩ := dL_elim h
      obtain ⟨s_, e1, h⟩ := dS_elim h
      obtain ⟨i_, e2, h⟩ := dI_elim h
      exact (api_putStr.L1_sound  b_b_ b_l_ b_c_ s_ i_ w h).weaken (Sub.cons (Sub.cons (Sub.cons (Sub.nil _) e2) e1) e0)) stops_nil) (Eq.mp (api_putStr.B0_eq b_b b_l b_c s w   R (fun b_b_ b_l_ b_c_ s_ i_ w => api_putStr.L1 b_b_ b_l_ b_c_ s_ i_ w  R)) h)
theorem api_putStr.sound (b_b : Option Addr) (b_l b_c : Nat) (s : ByteArray) (w : World) (R : Option Addr → Nat → Nat → World → Prop) (h : api_putStr.B0 b_b b_l b_c s w R) : api_putStr.Call b_b b_l b_c s w R := by
  have hc := calls_of_block (args := #[.slice b_b b_l b_c, .string s]) Tryz.func159 (body := (Tryz.f159.body.getD .skip)) (by kernel_rfl) (by kernel_rfl) (args_slot _) (api_putStr.B0_sound b_b b_l b_c s w h)
  exact hc.mono fun e w' he => by
    obtain ⟨v, rfl, hv⟩ := he
    exact api_putStr.RV_elim hv
def sync_Sync_grow.B0 (s : Option Addr) (e_0 : Int) (e_1 : ByteArray) (w : World)   (R : Int → World → Prop) : Prop :=
  New (.cells #[.int .i64 e_0, .string e_1] 155) w fun e_ w1 =>
  Pn s fun a =>
  LdP a w1.drew fun x9 =>
  LdI .i64 ⟨e_, 0, none⟩ w1.drew fun x10_0 =>
  LdS ⟨e_, 1, none⟩ w1.drew fun x10_1 =>
  rlog_Log_Append.Call x9 x10_0 x10_1 w1.drew fun r11 w2 =>
  Bm (r11 == (0 : Int)) (
    Pn s fun a_1 =>
    LdI .i64 (a_1.add 9) w2 fun x17 =>
    Pn s fun a_2 =>
    Sts [.int .i64 (IntKind.i64.wrap (x17 + (1 : Int)))] (a_2.add 9) 0 w2 fun w3 =>
    LdI .i64 ⟨e_, 0, none⟩ w3 fun x23 =>
    Pn s fun a_3 =>
    Sts [.int .i64 x23] (a_3.add 10) 0 w3 fun w4 =>
    R r11 w4) (
    R r11 w2)
theorem sync_Sync_grow.B0_eq (s : Option Addr) (e_0 : Int) (e_1 : ByteArray) (w : World)   (R : Int → World → Prop)  :
    (
  New (.cells #[.int .i64 e_0, .string e_1] 155) w fun e_ w1 =>
  Pn s fun a =>
  LdP a w1.drew fun x9 =>
  LdI .i64 ⟨e_, 0, none⟩ w1.drew fun x10_0 =>
  LdS ⟨e_, 1, none⟩ w1.drew fun x10_1 =>
  rlog_Log_Append.Call x9 x10_0 x10_1 w1.drew fun r11 w2 =>
  Bm (r11 == (0 : Int)) (
    Pn s fun a_1 =>
    LdI .i64 (a_1.add 9) w2 fun x17 =>
    Pn s fun a_2 =>
    Sts [.int .i64 (IntKind.i64.wrap (x17 + (1 : Int)))] (a_2.add 9) 0 w2 fun w3 =>
    LdI .i64 ⟨e_, 0, none⟩ w3 fun x23 =>
    Pn s fun a_3 =>
    Sts [.int .i64 x23] (a_3.add 10) 0 w3 fun w4 =>
    R r11 w4) (
    R r11 w2)) = kstep Tryz.prog 27 Tryz.f160.results.toList (Tryz.f160.body.getD .skip) (sync_Sync_grow.RV R) (kvc Tryz.prog 27 Tryz.f160.results.toList (Tryz.f160.body.getD .skip) (sync_Sync_grow.RV R) [] 2000) [(0, [])] [(0, .pointer s), (1, .agg #[.int .i64 e_0, .string e_1])] w := by kernel_rfl
theorem sync_Sync_grow.B0_sound {R : Int → World → Prop}  (s : Option Addr) (e_0 : Int) (e_1 : ByteArray) (w : World) (h : sync_Sync_grow.B0 s e_0 e_1 w   R) :
    KW Tryz.prog 160 27 (sync_Sync_grow.RV R) ([(0, [])].map (toItem (Tryz.f160.body.getD .skip))) [(0, .pointer s), (1, .agg #[.int .i64 e_0, .string e_1])] w := by
  exact block_spec Tryz.func160 Tryz.mixed stops_nil (Eq.mp (sync_Sync_grow.B0_eq s e_0 e_1 w   R ) h)
theorem sync_Sync_grow.sound (s : Option Addr) (e_0 : Int) (e_1 : ByteArray) (w : World) (R : Int → World → Prop) (h : sync_Sync_grow.B0 s e_0 e_1 w R) : sync_Sync_grow.Call s e_0 e_1 w R := by
  have hc := calls_of_block (args := #[.pointer s, .agg #[.int .i64 e_0, .string e_1]]) Tryz.func160 (body := (Tryz.f160.body.getD .skip)) (by kernel_rfl) (by kernel_rfl) (args_slot _) (sync_Sync_grow.B0_sound s e_0 e_1 w h)
  exact hc.mono fun e w' he => by
    obtain ⟨v, rfl, hv⟩ := he
    exact sync_Sync_grow.RV_elim hv
def electm_Elect_Tick.B0 (e : Option Addr) (w : World)   (R : Int → World → Prop) : Prop :=
  Pn e fun a =>
  LdI .i64 (a.add 3) w fun x6 =>
  Bm (x6 == (2 : Int)) (
    R (2 : Int) w) (
    Pn e fun a_1 =>
    LdI .i64 (a_1.add 5) w fun x11 =>
    Pn e fun a_2 =>
    Sts [.int .i64 (IntKind.i64.wrap (x11 + (1 : Int)))] (a_2.add 5) 0 w fun w1 =>
    Pn e fun a_3 =>
    LdI .i64 (a_3.add 5) w1.drew fun x18 =>
    Pn e fun a_4 =>
    LdI .i64 a_4 w1.drew fun x22 =>
    api_Timeout.Call x22 w1.drew fun r23 w2 =>
    w2.cell? (a_3.add 5) = some (.int .i64 x18) ∧
    Bm (decide (x18 < r23)) (
      R (0 : Int) w2) (
      Pn e fun a_5 =>
      Sts [.int .i64 (0 : Int)] (a_5.add 5) 0 w2 fun w3 =>
      Pn e fun a_6 =>
      LdI .i64 (a_6.add 1) w3 fun x31 =>
      Bm (decide (x31 ≥ (72057594037927936 : Int))) (
        R (0 : Int) w3) (
        Pn e fun a_7 =>
        LdI .i64 (a_7.add 1) w3.drew fun x40 =>
        Pn e fun a_8 =>
        LdI .i64 a_8 w3.drew fun x45 =>
        Pn e fun a_9 =>
        Sts [.int .i64 (IntKind.i64.wrap (x40 + (1 : Int)))] (a_9.add 1) 0 w3.drew fun w4 =>
        Pn e fun a_10 =>
        Sts [.int .i64 x45] (a_10.add 2) 0 w4 fun w5 =>
        Pn e fun a_11 =>
        Sts [.int .i64 (1 : Int)] (a_11.add 3) 0 w5 fun w6 =>
        Pn e fun a_12 =>
        Sts [.int .i64 (-1 : Int)] (a_12.add 4) 0 w6 fun w7 =>
        Pn e fun a_13 =>
        Sts [.bool false, .bool false, .bool false] (a_13.add 6) 0 w7 fun w8 =>
        Pn e fun a_14 =>
        LdI .i64 a_14 w8.drew fun x62 =>
        Pn e fun a_15 =>
        (0 ≤ x62 ∧ x62 < ((3 : Nat) : Int)) ∧
        Sts [.bool true] (Addr.add (a_15.add 6) (x62.toNat * 1)) 0 w8.drew fun w9 =>
        R (1 : Int) w9)))
theorem electm_Elect_Tick.B0_eq (e : Option Addr) (w : World)   (R : Int → World → Prop)  :
    (
  Pn e fun a =>
  LdI .i64 (a.add 3) w fun x6 =>
  Bm (x6 == (2 : Int)) (
    R (2 : Int) w) (
    Pn e fun a_1 =>
    LdI .i64 (a_1.add 5) w fun x11 =>
    Pn e fun a_2 =>
    Sts [.int .i64 (IntKind.i64.wrap (x11 + (1 : Int)))] (a_2.add 5) 0 w fun w1 =>
    Pn e fun a_3 =>
    LdI .i64 (a_3.add 5) w1.drew fun x18 =>
    Pn e fun a_4 =>
    LdI .i64 a_4 w1.drew fun x22 =>
    api_Timeout.Call x22 w1.drew fun r23 w2 =>
    w2.cell? (a_3.add 5) = some (.int .i64 x18) ∧
    Bm (decide (x18 < r23)) (
      R (0 : Int) w2) (
      Pn e fun a_5 =>
      Sts [.int .i64 (0 : Int)] (a_5.add 5) 0 w2 fun w3 =>
      Pn e fun a_6 =>
      LdI .i64 (a_6.add 1) w3 fun x31 =>
      Bm (decide (x31 ≥ (72057594037927936 : Int))) (
        R (0 : Int) w3) (
        Pn e fun a_7 =>
        LdI .i64 (a_7.add 1) w3.drew fun x40 =>
        Pn e fun a_8 =>
        LdI .i64 a_8 w3.drew fun x45 =>
        Pn e fun a_9 =>
        Sts [.int .i64 (IntKind.i64.wrap (x40 + (1 : Int)))] (a_9.add 1) 0 w3.drew fun w4 =>
        Pn e fun a_10 =>
        Sts [.int .i64 x45] (a_10.add 2) 0 w4 fun w5 =>
        Pn e fun a_11 =>
        Sts [.int .i64 (1 : Int)] (a_11.add 3) 0 w5 fun w6 =>
        Pn e fun a_12 =>
        Sts [.int .i64 (-1 : Int)] (a_12.add 4) 0 w6 fun w7 =>
        Pn e fun a_13 =>
        Sts [.bool false, .bool false, .bool false] (a_13.add 6) 0 w7 fun w8 =>
        Pn e fun a_14 =>
        LdI .i64 a_14 w8.drew fun x62 =>
        Pn e fun a_15 =>
        (0 ≤ x62 ∧ x62 < ((3 : Nat) : Int)) ∧
        Sts [.bool true] (Addr.add (a_15.add 6) (x62.toNat * 1)) 0 w8.drew fun w9 =>
        R (1 : Int) w9)))) = kstep Tryz.prog 66 Tryz.f161.results.toList (Tryz.f161.body.getD .skip) (electm_Elect_Tick.RV R) (kvc Tryz.prog 66 Tryz.f161.results.toList (Tryz.f161.body.getD .skip) (electm_Elect_Tick.RV R) [] 2000) [(0, [])] [(0, .pointer e)] w := by kernel_rfl
theorem electm_Elect_Tick.B0_sound {R : Int → World → Prop}  (e : Option Addr) (w : World) (h : electm_Elect_Tick.B0 e w   R) :
    KW Tryz.prog 161 66 (electm_Elect_Tick.RV R) ([(0, [])].map (toItem (Tryz.f161.body.getD .skip))) [(0, .pointer e)] w := by
  exact block_spec Tryz.func161 Tryz.mixed stops_nil (Eq.mp (electm_Elect_Tick.B0_eq e w   R ) h)
theorem electm_Elect_Tick.sound (e : Option Addr) (w : World) (R : Int → World → Prop) (h : electm_Elect_Tick.B0 e w R) : electm_Elect_Tick.Call e w R := by
  have hc := calls_of_block (args := #[.pointer e]) Tryz.func161 (body := (Tryz.f161.body.getD .skip)) (by kernel_rfl) (by kernel_rfl) (args_slot _) (electm_Elect_Tick.B0_sound e w h)
  exact hc.mono fun e w' he => by
    obtain ⟨v, rfl, hv⟩ := he
    exact electm_Elect_Tick.RV_elim hv
def syncm_Sync_persist.B1 (s : Option Addr) (t v : Int) (t33 : Bool) (w : World)   (R : World → Prop) : Prop :=
  Bm t33 (
    Pn s fun a =>
    LdP a w fun x37 =>
    rlogm_Log_SetTerm.Call x37 t v w fun r40 w1 =>
    R  w1) (
    R  w)
theorem syncm_Sync_persist.B1_eq (s : Option Addr) (t v : Int) (t33 : Bool) (w : World)   (R : World → Prop)  :
    (
  Bm t33 (
    Pn s fun a =>
    LdP a w fun x37 =>
    rlogm_Log_SetTerm.Call x37 t v w fun r40 w1 =>
    R  w1) (
    R  w)) = kstep Tryz.prog 41 Tryz.f162.results.toList (Tryz.f162.body.getD .skip) (syncm_Sync_persist.RV R) (kvc Tryz.prog 41 Tryz.f162.results.toList (Tryz.f162.body.getD .skip) (syncm_Sync_persist.RV R) [] 2000) [(0, [1, 1, 1, 1, 1])] [(0, .pointer s), (2, .int .i64 t), (3, .int .i64 v), (33, .bool t33)] w := by kernel_rfl
theorem syncm_Sync_persist.B1_sound {R : World → Prop}  (s : Option Addr) (t v : Int) (t33 : Bool) (w : World) (h : syncm_Sync_persist.B1 s t v t33 w   R) :
    KW Tryz.prog 162 41 (syncm_Sync_persist.RV R) ([(0, [1, 1, 1, 1, 1])].map (toItem (Tryz.f162.body.getD .skip))) [(0, .pointer s), (2, .int .i64 t), (3, .int .i64 v), (33, .bool t33)] w := by
  exact block_spec Tryz.func162 Tryz.mixed stops_nil (Eq.mp (syncm_Sync_persist.B1_eq s t v t33 w   R ) h)
def syncm_Sync_persist.B0 (s : Option Addr) (w : World)   (R : World → Prop) : Prop :=
  Pn s fun a =>
  LdP (a.add 1) w fun x9 =>
  electm_Elect_Term.Call x9 w fun r10 w1 =>
  Pn s fun a_1 =>
  LdP (a_1.add 1) w1 fun x14 =>
  electm_Elect_Vote.Call x14 w1 fun r15 w2 =>
  Pn s fun a_2 =>
  LdP a_2 w2 fun x19 =>
  rlogm_Log_Term.Call x19 w2 fun r20 w3 =>
  Pn s fun a_3 =>
  LdP a_3 w3 fun x24 =>
  rlogm_Log_Vote.Call x24 w3 fun r25 w4 =>
  Bm (r10 != r20) (
    syncm_Sync_persist.B1 s r10 r15 true w4  R) (
    syncm_Sync_persist.B1 s r10 r15 (r15 != r25) w4  R)
theorem syncm_Sync_persist.B0_eq (s : Option Addr) (w : World)   (R : World → Prop) (sB1 : Option Addr → Int → Int → Bool → World → Prop) :
    (
  Pn s fun a =>
  LdP (a.add 1) w fun x9 =>
  electm_Elect_Term.Call x9 w fun r10 w1 =>
  Pn s fun a_1 =>
  LdP (a_1.add 1) w1 fun x14 =>
  electm_Elect_Vote.Call x14 w1 fun r15 w2 =>
  Pn s fun a_2 =>
  LdP a_2 w2 fun x19 =>
  rlogm_Log_Term.Call x19 w2 fun r20 w3 =>
  Pn s fun a_3 =>
  LdP a_3 w3 fun x24 =>
  rlogm_Log_Vote.Call x24 w3 fun r25 w4 =>
  Bm (r10 != r20) (
    sB1 s r10 r15 true w4) (
    sB1 s r10 r15 (r15 != r25) w4)) = kstep Tryz.prog 41 Tryz.f162.results.toList (Tryz.f162.body.getD .skip) (syncm_Sync_persist.RV R) (kvc Tryz.prog 41 Tryz.f162.results.toList (Tryz.f162.body.getD .skip) (syncm_Sync_persist.RV R) [([(0, [1, 1, 1, 1, 1])], fun σ w => dP (slotOf σ 0) fun s_ => dI .i64 (slotOf σ 2) fun t_ => dI .i64 (slotOf σ 3) fun v_ => dB (slotOf σ 33) fun t33_ => sB1 s_ t_ v_ t33_ w)] 2000) [(0, [])] [(0, .pointer s)] w := by kernel_rfl
theorem syncm_Sync_persist.B0_sound {R : World → Prop}  (s : Option Addr) (w : World) (h : syncm_Sync_persist.B0 s w   R) :
    KW Tryz.prog 162 41 (syncm_Sync_persist.RV R) ([(0, [])].map (toItem (Tryz.f162.body.getD .skip))) [(0, .pointer s)] w := by
  exact block_spec Tryz.func162 Tryz.mixed (stops_cons (fun σ w h => by
      obtain ⟨s_, e0, h⟩ := dP_elim h
      obtain ⟨t_, e1, h⟩ := dI_elim h
      obtain ⟨v_, e2, h⟩ := dI_elim h
      obtain ⟨t33_, e3, h⟩ := dB_elim h
      exact (syncm_Sync_persist.B1_sound  s_ t_ v_ t33_ w h).weaken (Sub.cons (Sub.cons (Sub.cons (Sub.cons (Sub.nil _) e3) e2) e1) e0)) stops_nil) (Eq.mp (syncm_Sync_persist.B0_eq s w   R (fun s_ t_ v_ t33_ w => syncm_Sync_persist.B1 s_ t_ v_ t33_ w  R)) h)
theorem syncm_Sync_persist.sound (s : Option Addr) (w : World) (R : World → Prop) (h : syncm_Sync_persist.B0 s w R) : syncm_Sync_persist.Call s w R := by
  have hc := calls_of_block (args := #[.pointer s]) Tryz.func162 (body := (Tryz.f162.body.getD .skip)) (by kernel_rfl) (by kernel_rfl) (args_slot _) (syncm_Sync_persist.B0_sound s w h)
  exact hc.mono fun e w' he => by
    obtain ⟨v, rfl, hv⟩ := he
    exact syncm_Sync_persist.RV_elim hv
def syncm_Sync_sendAll.B1 (s out_b : Option Addr) (out_l out_c : Nat) (id0 p : Int) (w : World) (N1 : Option Addr → Option Addr → Nat → Nat → Int → Int → World → Prop)  (R : Option Addr → Nat → Nat → World → Prop) : Prop :=
  N1 s out_b out_l out_c id0 (IntKind.i64.wrap (p + (1 : Int))) w
theorem syncm_Sync_sendAll.B1_eq (s out_b : Option Addr) (out_l out_c : Nat) (id0 p : Int) (w : World) (N1 : Option Addr → Option Addr → Nat → Nat → Int → Int → World → Prop)  (R : Option Addr → Nat → Nat → World → Prop)  :
    (
  N1 s out_b out_l out_c id0 (IntKind.i64.wrap (p + (1 : Int))) w) = kstep Tryz.prog 27 Tryz.f163.results.toList (Tryz.f163.body.getD .skip) (syncm_Sync_sendAll.RV R) (kvc Tryz.prog 27 Tryz.f163.results.toList (Tryz.f163.body.getD .skip) (syncm_Sync_sendAll.RV R) [([(0, [1, 1, 1, 0, 1, 0, 0]), (2, [1, 1, 1, 0, 1, 0, 0]), (1, [0]), (0, [1, 1, 1, 1])], fun σ w => dP (slotOf σ 0) fun s_ => dL (slotOf σ 3) fun out_b_ out_l_ out_c_ => dI .i64 (slotOf σ 4) fun id0_ => dI .i64 (slotOf σ 5) fun p_ => N1 s_ out_b_ out_l_ out_c_ id0_ p_ w)] 2000) [(0, [1, 1, 1, 0, 1, 0, 0, 1, 1]), (2, [1, 1, 1, 0, 1, 0, 0]), (1, [0]), (0, [1, 1, 1, 1])] [(0, .pointer s), (3, .slice out_b out_l out_c), (4, .int .i64 id0), (5, .int .i64 p)] w := by kernel_rfl
theorem syncm_Sync_sendAll.B1_sound {R : Option Addr → Nat → Nat → World → Prop} {N1 : Option Addr → Option Addr → Nat → Nat → Int → Int → World → Prop} (hN1 : ∀ s out_b out_l out_c id0 p w, N1 s out_b out_l out_c id0 p w → KW Tryz.prog 163 27 (syncm_Sync_sendAll.RV R) ([(0, [1, 1, 1, 0, 1, 0, 0]), (2, [1, 1, 1, 0, 1, 0, 0]), (1, [0]), (0, [1, 1, 1, 1])].map (toItem (Tryz.f163.body.getD .skip))) [(0, .pointer s), (3, .slice out_b out_l out_c), (4, .int .i64 id0), (5, .int .i64 p)] w) (s out_b : Option Addr) (out_l out_c : Nat) (id0 p : Int) (w : World) (h : syncm_Sync_sendAll.B1 s out_b out_l out_c id0 p w N1  R) :
    KW Tryz.prog 163 27 (syncm_Sync_sendAll.RV R) ([(0, [1, 1, 1, 0, 1, 0, 0, 1, 1]), (2, [1, 1, 1, 0, 1, 0, 0]), (1, [0]), (0, [1, 1, 1, 1])].map (toItem (Tryz.f163.body.getD .skip))) [(0, .pointer s), (3, .slice out_b out_l out_c), (4, .int .i64 id0), (5, .int .i64 p)] w := by
  exact block_spec Tryz.func163 Tryz.mixed (stops_cons (fun σ w h => by
      obtain ⟨s_, e0, h⟩ := dP_elim h
      obtain ⟨out_b_, out_l_, out_c_, e1, h⟩ := dL_elim h
      obtain ⟨id0_, e2, h⟩ := dI_elim h
      obtain ⟨p_, e3, h⟩ := dI_elim h
      exact (hN1 s_ out_b_ out_l_ out_c_ id0_ p_ w h).weaken (Sub.cons (Sub.cons (Sub.cons (Sub.cons (Sub.nil _) e3) e2) e1) e0)) stops_nil) (Eq.mp (syncm_Sync_sendAll.B1_eq s out_b out_l out_c id0 p w N1  R ) h)
def syncm_Sync_sendAll.L1b (s out_b : Option Addr) (out_l out_c : Nat) (id0 p : Int) (w : World)  (N1 : Option Addr → Option Addr → Nat → Nat → Int → Int → World → Prop) (R : Option Addr → Nat → Nat → World → Prop) : Prop :=
  Bm (decide (p < (3 : Int))) (
    Bm (p != id0) (
      syncm_Sync_send.Call s p w fun r21_0 r21_1 r21_2 r21_3 r21_4 r21_5 r21_6 r21_7 r21_8_b r21_8_l r21_8_c r21_9 w1 =>
      New (.cells #[.int .i64 (0 : Int), .int .i64 (0 : Int), .int .i64 (0 : Int), .int .i64 (0 : Int), .int .i64 (0 : Int), .int .i64 (0 : Int), .int .i64 (0 : Int), .bool false, .slice none 0 0, .string (ByteArray.mk #[])] 101) w1 fun m0_ w2 =>
      Sts [.int .i64 r21_0, .int .i64 r21_1, .int .i64 r21_2, .int .i64 r21_3, .int .i64 r21_4, .int .i64 r21_5, .int .i64 r21_6, .bool r21_7, .slice r21_8_b r21_8_l r21_8_c, .string r21_9] ⟨m0_, 0, none⟩ 0 w2 fun w3 =>
      LdI .i64 ⟨m0_, 0, none⟩ w3 fun x23_0 =>
      LdI .i64 ⟨m0_, 1, none⟩ w3 fun x23_1 =>
      LdI .i64 ⟨m0_, 2, none⟩ w3 fun x23_2 =>
      LdI .i64 ⟨m0_, 3, none⟩ w3 fun x23_3 =>
      LdI .i64 ⟨m0_, 4, none⟩ w3 fun x23_4 =>
      LdI .i64 ⟨m0_, 5, none⟩ w3 fun x23_5 =>
      LdI .i64 ⟨m0_, 6, none⟩ w3 fun x23_6 =>
      LdB ⟨m0_, 7, none⟩ w3 fun x23_7 =>
      LdL ⟨m0_, 8, none⟩ w3 fun x23_8_b x23_8_l x23_8_c =>
      LdS ⟨m0_, 9, none⟩ w3 fun x23_9 =>
      New (.cells #[.int .i64 x23_0, .int .i64 x23_1, .int .i64 x23_2, .int .i64 x23_3, .int .i64 x23_4, .int .i64 x23_5, .int .i64 x23_6, .bool x23_7, .slice x23_8_b x23_8_l x23_8_c, .string x23_9] 101) w3 fun b24 w4 =>
      Append 101 (.agg #[.int .i64 (0 : Int), .int .i64 (0 : Int), .int .i64 (0 : Int), .int .i64 (0 : Int), .int .i64 (0 : Int), .int .i64 (0 : Int), .int .i64 (0 : Int), .bool false, .slice none 0 0, .string (ByteArray.mk #[])]) 10 104 out_b out_l out_c (some ⟨b24, 0, none⟩) 1 w4 fun b25 c25 w5 =>
      syncm_Sync_sendAll.B1 s b25 (out_l + 1) c25 id0 p w5 N1 R) (
      syncm_Sync_sendAll.B1 s out_b out_l out_c id0 p w N1 R)) (
    R out_b out_l out_c w)
theorem syncm_Sync_sendAll.L1b_eq (s out_b : Option Addr) (out_l out_c : Nat) (id0 p : Int) (w : World)  (N1 : Option Addr → Option Addr → Nat → Nat → Int → Int → World → Prop) (R : Option Addr → Nat → Nat → World → Prop) (sB1 : Option Addr → Option Addr → Nat → Nat → Int → Int → World → Prop) :
    (
  Bm (decide (p < (3 : Int))) (
    Bm (p != id0) (
      syncm_Sync_send.Call s p w fun r21_0 r21_1 r21_2 r21_3 r21_4 r21_5 r21_6 r21_7 r21_8_b r21_8_l r21_8_c r21_9 w1 =>
      New (.cells #[.int .i64 (0 : Int), .int .i64 (0 : Int), .int .i64 (0 : Int), .int .i64 (0 : Int), .int .i64 (0 : Int), .int .i64 (0 : Int), .int .i64 (0 : Int), .bool false, .slice none 0 0, .string (ByteArray.mk #[])] 101) w1 fun m0_ w2 =>
      Sts [.int .i64 r21_0, .int .i64 r21_1, .int .i64 r21_2, .int .i64 r21_3, .int .i64 r21_4, .int .i64 r21_5, .int .i64 r21_6, .bool r21_7, .slice r21_8_b r21_8_l r21_8_c, .string r21_9] ⟨m0_, 0, none⟩ 0 w2 fun w3 =>
      LdI .i64 ⟨m0_, 0, none⟩ w3 fun x23_0 =>
      LdI .i64 ⟨m0_, 1, none⟩ w3 fun x23_1 =>
      LdI .i64 ⟨m0_, 2, none⟩ w3 fun x23_2 =>
      LdI .i64 ⟨m0_, 3, none⟩ w3 fun x23_3 =>
      LdI .i64 ⟨m0_, 4, none⟩ w3 fun x23_4 =>
      LdI .i64 ⟨m0_, 5, none⟩ w3 fun x23_5 =>
      LdI .i64 ⟨m0_, 6, none⟩ w3 fun x23_6 =>
      LdB ⟨m0_, 7, none⟩ w3 fun x23_7 =>
      LdL ⟨m0_, 8, none⟩ w3 fun x23_8_b x23_8_l x23_8_c =>
      LdS ⟨m0_, 9, none⟩ w3 fun x23_9 =>
      New (.cells #[.int .i64 x23_0, .int .i64 x23_1, .int .i64 x23_2, .int .i64 x23_3, .int .i64 x23_4, .int .i64 x23_5, .int .i64 x23_6, .bool x23_7, .slice x23_8_b x23_8_l x23_8_c, .string x23_9] 101) w3 fun b24 w4 =>
      Append 101 (.agg #[.int .i64 (0 : Int), .int .i64 (0 : Int), .int .i64 (0 : Int), .int .i64 (0 : Int), .int .i64 (0 : Int), .int .i64 (0 : Int), .int .i64 (0 : Int), .bool false, .slice none 0 0, .string (ByteArray.mk #[])]) 10 104 out_b out_l out_c (some ⟨b24, 0, none⟩) 1 w4 fun b25 c25 w5 =>
      sB1 s b25 (out_l + 1) c25 id0 p w5) (
      sB1 s out_b out_l out_c id0 p w)) (
    R out_b out_l out_c w)) = kstep Tryz.prog 27 Tryz.f163.results.toList (Tryz.f163.body.getD .skip) (syncm_Sync_sendAll.RV R) (kvc Tryz.prog 27 Tryz.f163.results.toList (Tryz.f163.body.getD .skip) (syncm_Sync_sendAll.RV R) [([(0, [1, 1, 1, 0, 1, 0, 0, 1, 1]), (2, [1, 1, 1, 0, 1, 0, 0]), (1, [0]), (0, [1, 1, 1, 1])], fun σ w => dP (slotOf σ 0) fun s_ => dL (slotOf σ 3) fun out_b_ out_l_ out_c_ => dI .i64 (slotOf σ 4) fun id0_ => dI .i64 (slotOf σ 5) fun p_ => sB1 s_ out_b_ out_l_ out_c_ id0_ p_ w)] 2000) [(0, [1, 1, 1, 0, 1, 0, 0]), (2, [1, 1, 1, 0, 1, 0, 0]), (1, [0]), (0, [1, 1, 1, 1])] [(0, .pointer s), (3, .slice out_b out_l out_c), (4, .int .i64 id0), (5, .int .i64 p)] w := by kernel_rfl
theorem syncm_Sync_sendAll.L1b_sound {R : Option Addr → Nat → Nat → World → Prop} {N1 : Option Addr → Option Addr → Nat → Nat → Int → Int → World → Prop} (hN1 : ∀ s out_b out_l out_c id0 p w, N1 s out_b out_l out_c id0 p w → KW Tryz.prog 163 27 (syncm_Sync_sendAll.RV R) ([(0, [1, 1, 1, 0, 1, 0, 0]), (2, [1, 1, 1, 0, 1, 0, 0]), (1, [0]), (0, [1, 1, 1, 1])].map (toItem (Tryz.f163.body.getD .skip))) [(0, .pointer s), (3, .slice out_b out_l out_c), (4, .int .i64 id0), (5, .int .i64 p)] w) (s out_b : Option Addr) (out_l out_c : Nat) (id0 p : Int) (w : World) (h : syncm_Sync_sendAll.L1b s out_b out_l out_c id0 p w  N1 R) :
    KW Tryz.prog 163 27 (syncm_Sync_sendAll.RV R) ([(0, [1, 1, 1, 0, 1, 0, 0]), (2, [1, 1, 1, 0, 1, 0, 0]), (1, [0]), (0, [1, 1, 1, 1])].map (toItem (Tryz.f163.body.getD .skip))) [(0, .pointer s), (3, .slice out_b out_l out_c), (4, .int .i64 id0), (5, .int .i64 p)] w := by
  exact block_spec Tryz.func163 Tryz.mixed (stops_cons (fun σ w h => by
      obtain ⟨s_, e0, h⟩ := dP_elim h
      obtain ⟨out_b_, out_l_, out_c_, e1, h⟩ := dL_elim h
      obtain ⟨id0_, e2, h⟩ := dI_elim h
      obtain ⟨p_, e3, h⟩ := dI_elim h
      exact (syncm_Sync_sendAll.B1_sound hN1 s_ out_b_ out_l_ out_c_ id0_ p_ w h).weaken (Sub.cons (Sub.cons (Sub.cons (Sub.cons (Sub.nil _) e3) e2) e1) e0)) stops_nil) (Eq.mp (syncm_Sync_sendAll.L1b_eq s out_b out_l out_c id0 p w  N1 R (fun s_ out_b_ out_l_ out_c_ id0_ p_ w => syncm_Sync_sendAll.B1 s_ out_b_ out_l_ out_c_ id0_ p_ w N1 R)) h)
def syncm_Sync_sendAll.L1 (s out_b : Option Addr) (out_l out_c : Nat) (id0 p : Int) (w : World)  (R : Option Addr → Nat → Nat → World → Prop) : Prop :=
  ∃ (I : Nat → Option Addr → Option Addr → Nat → Nat → Int → Int → World → Prop) (m : Nat), I m s out_b out_l out_c id0 p w ∧ ∀ m s out_b out_l out_c id0 p w, I m s out_b out_l out_c id0 p w → syncm_Sync_sendAll.L1b s out_b out_l out_c id0 p w  (fun s' out_b' out_l' out_c' id0' p' w' => ∃ m', m' < m ∧ I m' s' out_b' out_l' out_c' id0' p' w') R
theorem syncm_Sync_sendAll.L1_sound {R : Option Addr → Nat → Nat → World → Prop}  (s out_b : Option Addr) (out_l out_c : Nat) (id0 p : Int) (w : World) (h : syncm_Sync_sendAll.L1 s out_b out_l out_c id0 p w  R) :
    KW Tryz.prog 163 27 (syncm_Sync_sendAll.RV R) ([(0, [1, 1, 1, 0, 1, 0, 0]), (2, [1, 1, 1, 0, 1, 0, 0]), (1, [0]), (0, [1, 1, 1, 1])].map (toItem (Tryz.f163.body.getD .skip))) [(0, .pointer s), (3, .slice out_b out_l out_c), (4, .int .i64 id0), (5, .int .i64 p)] w := by
  obtain ⟨I, m, hBase, hr⟩ := h
  refine KW.loop (fun m σ w => ∃ (s out_b : Option Addr) (out_l out_c : Nat) (id0 p : Int), σ = [(0, .pointer s), (3, .slice out_b out_l out_c), (4, .int .i64 id0), (5, .int .i64 p)] ∧ I m s out_b out_l out_c id0 p w) ?_ m _ w ⟨s, out_b, out_l, out_c, id0, p, rfl, hBase⟩
  rintro m ih σ w ⟨s, out_b, out_l, out_c, id0, p, rfl, hI⟩
  exact syncm_Sync_sendAll.L1b_sound  (N1 := fun s' out_b' out_l' out_c' id0' p' w' => ∃ m', m' < m ∧ I m' s' out_b' out_l' out_c' id0' p' w') (fun s' out_b' out_l' out_c' id0' p' w' hx => by obtain ⟨m', hlt, hI'⟩ := hx; exact ih m' hlt _ w' ⟨s', out_b', out_l', out_c', id0', p', rfl, hI'⟩) s out_b out_l out_c id0 p w (hr m s out_b out_l out_c id0 p w hI)
def syncm_Sync_sendAll.B0 (s : Option Addr) (w : World)   (R : Option Addr → Nat → Nat → World → Prop) : Prop :=
  Pn s fun a =>
  LdP (a.add 1) w fun x10 =>
  electm_Elect_Id.Call x10 w fun r11 w1 =>
  syncm_Sync_sendAll.L1 s none 0 0 r11 (0 : Int) w1  R
theorem syncm_Sync_sendAll.B0_eq (s : Option Addr) (w : World)   (R : Option Addr → Nat → Nat → World → Prop) (sL1 : Option Addr → Option Addr → Nat → Nat → Int → Int → World → Prop) :
    (
  Pn s fun a =>
  LdP (a.add 1) w fun x10 =>
  electm_Elect_Id.Call x10 w fun r11 w1 =>
  sL1 s none 0 0 r11 (0 : Int) w1) = kstep Tryz.prog 27 Tryz.f163.results.toList (Tryz.f163.body.getD .skip) (syncm_Sync_sendAll.RV R) (kvc Tryz.prog 27 Tryz.f163.results.toList (Tryz.f163.body.getD .skip) (syncm_Sync_sendAll.RV R) [([(0, [1, 1, 1, 0, 1, 0, 0]), (2, [1, 1, 1, 0, 1, 0, 0]), (1, [0]), (0, [1, 1, 1, 1])], fun σ w => dP (slotOf σ 0) fun s_ => dL (slotOf σ 3) fun out_b_ out_l_ out_c_ => dI .i64 (slotOf σ 4) fun id0_ => dI .i64 (slotOf σ 5) fun p_ => sL1 s_ out_b_ out_l_ out_c_ id0_ p_ w)] 2000) [(0, [])] [(0, .pointer s)] w := by kernel_rfl
theorem syncm_Sync_sendAll.B0_sound {R : Option Addr → Nat → Nat → World → Prop}  (s : Option Addr) (w : World) (h : syncm_Sync_sendAll.B0 s w   R) :
    KW Tryz.prog 163 27 (syncm_Sync_sendAll.RV R) ([(0, [])].map (toItem (Tryz.f163.body.getD .skip))) [(0, .pointer s)] w := by
  exact block_spec Tryz.func163 Tryz.mixed (stops_cons (fun σ w h => by
      obtain ⟨s_, e0, h⟩ := dP_elim h
      obtain ⟨out_b_, out_l_, out_c_, e1, h⟩ := dL_elim h
      obtain ⟨id0_, e2, h⟩ := dI_elim h
      obtain ⟨p_, e3, h⟩ := dI_elim h
      exact (syncm_Sync_sendAll.L1_sound  s_ out_b_ out_l_ out_c_ id0_ p_ w h).weaken (Sub.cons (Sub.cons (Sub.cons (Sub.cons (Sub.nil _) e3) e2) e1) e0)) stops_nil) (Eq.mp (syncm_Sync_sendAll.B0_eq s w   R (fun s_ out_b_ out_l_ out_c_ id0_ p_ w => syncm_Sync_sendAll.L1 s_ out_b_ out_l_ out_c_ id0_ p_ w  R)) h)
theorem syncm_Sync_sendAll.sound (s : Option Addr) (w : World) (R : Option Addr → Nat → Nat → World → Prop) (h : syncm_Sync_sendAll.B0 s w R) : syncm_Sync_sendAll.Call s w R := by
  have hc := calls_of_block (args := #[.pointer s]) Tryz.func163 (body := (Tryz.f163.body.getD .skip)) (by kernel_rfl) (by kernel_rfl) (args_slot _) (syncm_Sync_sendAll.B0_sound s w h)
  exact hc.mono fun e w' he => by
    obtain ⟨v, rfl, hv⟩ := he
    exact syncm_Sync_sendAll.RV_elim hv
def electm_Elect_Term.B0 (e : Option Addr) (w : World)   (R : Int → World → Prop) : Prop :=
  Pn e fun a =>
  LdI .i64 (a.add 1) w fun x6 =>
  R x6 w
theorem electm_Elect_Term.B0_eq (e : Option Addr) (w : World)   (R : Int → World → Prop)  :
    (
  Pn e fun a =>
  LdI .i64 (a.add 1) w fun x6 =>
  R x6 w) = kstep Tryz.prog 7 Tryz.f164.results.toList (Tryz.f164.body.getD .skip) (electm_Elect_Term.RV R) (kvc Tryz.prog 7 Tryz.f164.results.toList (Tryz.f164.body.getD .skip) (electm_Elect_Term.RV R) [] 2000) [(0, [])] [(0, .pointer e)] w := by kernel_rfl
theorem electm_Elect_Term.B0_sound {R : Int → World → Prop}  (e : Option Addr) (w : World) (h : electm_Elect_Term.B0 e w   R) :
    KW Tryz.prog 164 7 (electm_Elect_Term.RV R) ([(0, [])].map (toItem (Tryz.f164.body.getD .skip))) [(0, .pointer e)] w := by
  exact block_spec Tryz.func164 Tryz.mixed stops_nil (Eq.mp (electm_Elect_Term.B0_eq e w   R ) h)
theorem electm_Elect_Term.sound (e : Option Addr) (w : World) (R : Int → World → Prop) (h : electm_Elect_Term.B0 e w R) : electm_Elect_Term.Call e w R := by
  have hc := calls_of_block (args := #[.pointer e]) Tryz.func164 (body := (Tryz.f164.body.getD .skip)) (by kernel_rfl) (by kernel_rfl) (args_slot _) (electm_Elect_Term.B0_sound e w h)
  exact hc.mono fun e w' he => by
    obtain ⟨v, rfl, hv⟩ := he
    exact electm_Elect_Term.RV_elim hv
def rlogm_Log_Last.B0 (l : Option Addr) (w : World)   (R : Int → World → Prop) : Prop :=
  Pn l fun a =>
  LdP a w.drew fun x6 =>
  Pn x6 fun a_1 =>
  LdI .i64 (a_1.add 2) w.drew fun x9 =>
  Pn l fun a_2 =>
  LdP a_2 w.drew fun x13 =>
  Pn x13 fun a_3 =>
  LdI .i64 (a_3.add 5) w.drew fun x16 =>
  R (IntKind.i64.wrap (x9 + x16)) w.drew
theorem rlogm_Log_Last.B0_eq (l : Option Addr) (w : World)   (R : Int → World → Prop)  :
    (
  Pn l fun a =>
  LdP a w.drew fun x6 =>
  Pn x6 fun a_1 =>
  LdI .i64 (a_1.add 2) w.drew fun x9 =>
  Pn l fun a_2 =>
  LdP a_2 w.drew fun x13 =>
  Pn x13 fun a_3 =>
  LdI .i64 (a_3.add 5) w.drew fun x16 =>
  R (IntKind.i64.wrap (x9 + x16)) w.drew) = kstep Tryz.prog 18 Tryz.f165.results.toList (Tryz.f165.body.getD .skip) (rlogm_Log_Last.RV R) (kvc Tryz.prog 18 Tryz.f165.results.toList (Tryz.f165.body.getD .skip) (rlogm_Log_Last.RV R) [] 2000) [(0, [])] [(0, .pointer l)] w := by kernel_rfl
theorem rlogm_Log_Last.B0_sound {R : Int → World → Prop}  (l : Option Addr) (w : World) (h : rlogm_Log_Last.B0 l w   R) :
    KW Tryz.prog 165 18 (rlogm_Log_Last.RV R) ([(0, [])].map (toItem (Tryz.f165.body.getD .skip))) [(0, .pointer l)] w := by
  exact block_spec Tryz.func165 Tryz.mixed stops_nil (Eq.mp (rlogm_Log_Last.B0_eq l w   R ) h)
theorem rlogm_Log_Last.sound (l : Option Addr) (w : World) (R : Int → World → Prop) (h : rlogm_Log_Last.B0 l w R) : rlogm_Log_Last.Call l w R := by
  have hc := calls_of_block (args := #[.pointer l]) Tryz.func165 (body := (Tryz.f165.body.getD .skip)) (by kernel_rfl) (by kernel_rfl) (args_slot _) (rlogm_Log_Last.B0_sound l w h)
  exact hc.mono fun e w' he => by
    obtain ⟨v, rfl, hv⟩ := he
    exact rlogm_Log_Last.RV_elim hv
def rlogm_Log_TermAt.B0 (l : Option Addr) (i : Int) (w : World)   (R : Int → Int → World → Prop) : Prop :=
  Pn l fun a =>
  LdP a w fun x12 =>
  Pn x12 fun a_1 =>
  LdI .i64 (a_1.add 2) w fun x15 =>
  Bm (i == x15) (
    Pn l fun a_2 =>
    LdP a_2 w fun x20 =>
    Pn x20 fun a_3 =>
    LdI .i64 (a_3.add 3) w fun x23 =>
    R x23 (0 : Int) w) (
    rlogm_Log_At.Call l i w fun r27_0_0 r27_0_1 r27_1 w1 =>
    New (.cells #[.int .i64 (0 : Int), .string (ByteArray.mk #[])] 155) w1 fun e_ w2 =>
    Sts [.int .i64 r27_0_0, .string r27_0_1] ⟨e_, 0, none⟩ 0 w2 fun w3 =>
    LdI .i64 ⟨e_, 0, none⟩ w3 fun x31 =>
    R x31 r27_1 w3)
theorem rlogm_Log_TermAt.B0_eq (l : Option Addr) (i : Int) (w : World)   (R : Int → Int → World → Prop)  :
    (
  Pn l fun a =>
  LdP a w fun x12 =>
  Pn x12 fun a_1 =>
  LdI .i64 (a_1.add 2) w fun x15 =>
  Bm (i == x15) (
    Pn l fun a_2 =>
    LdP a_2 w fun x20 =>
    Pn x20 fun a_3 =>
    LdI .i64 (a_3.add 3) w fun x23 =>
    R x23 (0 : Int) w) (
    rlogm_Log_At.Call l i w fun r27_0_0 r27_0_1 r27_1 w1 =>
    New (.cells #[.int .i64 (0 : Int), .string (ByteArray.mk #[])] 155) w1 fun e_ w2 =>
    Sts [.int .i64 r27_0_0, .string r27_0_1] ⟨e_, 0, none⟩ 0 w2 fun w3 =>
    LdI .i64 ⟨e_, 0, none⟩ w3 fun x31 =>
    R x31 r27_1 w3)) = kstep Tryz.prog 33 Tryz.f166.results.toList (Tryz.f166.body.getD .skip) (rlogm_Log_TermAt.RV R) (kvc Tryz.prog 33 Tryz.f166.results.toList (Tryz.f166.body.getD .skip) (rlogm_Log_TermAt.RV R) [] 2000) [(0, [])] [(0, .pointer l), (1, .int .i64 i)] w := by kernel_rfl
theorem rlogm_Log_TermAt.B0_sound {R : Int → Int → World → Prop}  (l : Option Addr) (i : Int) (w : World) (h : rlogm_Log_TermAt.B0 l i w   R) :
    KW Tryz.prog 166 33 (rlogm_Log_TermAt.RV R) ([(0, [])].map (toItem (Tryz.f166.body.getD .skip))) [(0, .pointer l), (1, .int .i64 i)] w := by
  exact block_spec Tryz.func166 Tryz.mixed stops_nil (Eq.mp (rlogm_Log_TermAt.B0_eq l i w   R ) h)
theorem rlogm_Log_TermAt.sound (l : Option Addr) (i : Int) (w : World) (R : Int → Int → World → Prop) (h : rlogm_Log_TermAt.B0 l i w R) : rlogm_Log_TermAt.Call l i w R := by
  have hc := calls_of_block (args := #[.pointer l, .int .i64 i]) Tryz.func166 (body := (Tryz.f166.body.getD .skip)) (by kernel_rfl) (by kernel_rfl) (args_slot _) (rlogm_Log_TermAt.B0_sound l i w h)
  exact hc.mono fun e w' he => by
    obtain ⟨v, rfl, hv⟩ := he
    exact rlogm_Log_TermAt.RV_elim hv
def kvm_KV_Snapshot.L2b (k b_b : Option Addr) (b_l b_c : Nat) (c : Int) (w : World)  (N2 : Option Addr → Option Addr → Nat → Nat → Int → World → Prop) (R : ByteArray → World → Prop) : Prop :=
  Bm (decide (c < (3 : Int))) (
    Pn k fun a =>
    (0 ≤ c ∧ c < ((3 : Nat) : Int)) ∧
    LdI .i64 (Addr.add (a.add 9) (c.toNat * 1)) w fun x49 =>
    api_PutU64.Call b_b b_l b_c x49 w fun r50_b r50_l r50_c w1 =>
    Pn k fun a_1 =>
    (0 ≤ c ∧ c < ((3 : Nat) : Int)) ∧
    LdI .i64 (Addr.add (a_1.add 12) (c.toNat * 2)) w1 fun x58 =>
    New (.cells #[.int .u8 (IntKind.u8.wrap x58)] 5) w1 fun b60 w2 =>
    Append 5 (.int .u8 (0 : Int)) 1 1 r50_b r50_l r50_c (some ⟨b60, 0, none⟩) 1 w2 fun b61 c61 w3 =>
    Pn k fun a_2 =>
    (0 ≤ c ∧ c < ((3 : Nat) : Int)) ∧
    LdS ((Addr.add (a_2.add 12) (c.toNat * 2)).add 1) w3 fun x69 =>
    kvm_str.Call b61 (r50_l + 1) c61 x69 w3 fun r70_b r70_l r70_c w4 =>
    N2 k r70_b r70_l r70_c (IntKind.i64.wrap (c + (1 : Int))) w4) (
    ToStr b_b b_l w fun s72 =>
    R s72 w)
theorem kvm_KV_Snapshot.L2b_eq (k b_b : Option Addr) (b_l b_c : Nat) (c : Int) (w : World)  (N2 : Option Addr → Option Addr → Nat → Nat → Int → World → Prop) (R : ByteArray → World → Prop)  :
    (
  Bm (decide (c < (3 : Int))) (
    Pn k fun a =>
    (0 ≤ c ∧ c < ((3 : Nat) : Int)) ∧
    LdI .i64 (Addr.add (a.add 9) (c.toNat * 1)) w fun x49 =>
    api_PutU64.Call b_b b_l b_c x49 w fun r50_b r50_l r50_c w1 =>
    Pn k fun a_1 =>
    (0 ≤ c ∧ c < ((3 : Nat) : Int)) ∧
    LdI .i64 (Addr.add (a_1.add 12) (c.toNat * 2)) w1 fun x58 =>
    New (.cells #[.int .u8 (IntKind.u8.wrap x58)] 5) w1 fun b60 w2 =>
    Append 5 (.int .u8 (0 : Int)) 1 1 r50_b r50_l r50_c (some ⟨b60, 0, none⟩) 1 w2 fun b61 c61 w3 =>
    Pn k fun a_2 =>
    (0 ≤ c ∧ c < ((3 : Nat) : Int)) ∧
    LdS ((Addr.add (a_2.add 12) (c.toNat * 2)).add 1) w3 fun x69 =>
    kvm_str.Call b61 (r50_l + 1) c61 x69 w3 fun r70_b r70_l r70_c w4 =>
    N2 k r70_b r70_l r70_c (IntKind.i64.wrap (c + (1 : Int))) w4) (
    ToStr b_b b_l w fun s72 =>
    R s72 w)) = kstep Tryz.prog 73 Tryz.f167.results.toList (Tryz.f167.body.getD .skip) (kvm_KV_Snapshot.RV R) (kvc Tryz.prog 73 Tryz.f167.results.toList (Tryz.f167.body.getD .skip) (kvm_KV_Snapshot.RV R) [([(0, [1, 1, 1, 1, 0, 1, 0, 0]), (2, [1, 1, 1, 1, 0, 1, 0, 0]), (1, [2]), (0, [1, 1, 1, 1, 1])], fun σ w => dP (slotOf σ 0) fun k_ => dL (slotOf σ 3) fun b_b_ b_l_ b_c_ => dI .i64 (slotOf σ 5) fun c_ => N2 k_ b_b_ b_l_ b_c_ c_ w)] 2000) [(0, [1, 1, 1, 1, 0, 1, 0, 0]), (2, [1, 1, 1, 1, 0, 1, 0, 0]), (1, [2]), (0, [1, 1, 1, 1, 1])] [(0, .pointer k), (3, .slice b_b b_l b_c), (5, .int .i64 c)] w := by kernel_rfl
theorem kvm_KV_Snapshot.L2b_sound {R : ByteArray → World → Prop} {N2 : Option Addr → Option Addr → Nat → Nat → Int → World → Prop} (hN2 : ∀ k b_b b_l b_c c w, N2 k b_b b_l b_c c w → KW Tryz.prog 167 73 (kvm_KV_Snapshot.RV R) ([(0, [1, 1, 1, 1, 0, 1, 0, 0]), (2, [1, 1, 1, 1, 0, 1, 0, 0]), (1, [2]), (0, [1, 1, 1, 1, 1])].map (toItem (Tryz.f167.body.getD .skip))) [(0, .pointer k), (3, .slice b_b b_l b_c), (5, .int .i64 c)] w) (k b_b : Option Addr) (b_l b_c : Nat) (c : Int) (w : World) (h : kvm_KV_Snapshot.L2b k b_b b_l b_c c w  N2 R) :
    KW Tryz.prog 167 73 (kvm_KV_Snapshot.RV R) ([(0, [1, 1, 1, 1, 0, 1, 0, 0]), (2, [1, 1, 1, 1, 0, 1, 0, 0]), (1, [2]), (0, [1, 1, 1, 1, 1])].map (toItem (Tryz.f167.body.getD .skip))) [(0, .pointer k), (3, .slice b_b b_l b_c), (5, .int .i64 c)] w := by
  exact block_spec Tryz.func167 Tryz.mixed (stops_cons (fun σ w h => by
      obtain ⟨k_, e0, h⟩ := dP_elim h
      obtain ⟨b_b_, b_l_, b_c_, e1, h⟩ := dL_elim h
      obtain ⟨c_, e2, h⟩ := dI_elim h
      exact (hN2 k_ b_b_ b_l_ b_c_ c_ w h).weaken (Sub.cons (Sub.cons (Sub.cons (Sub.nil _) e2) e1) e0)) stops_nil) (Eq.mp (kvm_KV_Snapshot.L2b_eq k b_b b_l b_c c w  N2 R ) h)
def kvm_KV_Snapshot.L2 (k b_b : Option Addr) (b_l b_c : Nat) (c : Int) (w : World)  (R : ByteArray → World → Prop) : Prop :=
  ∃ (I : Nat → Option Addr → Option Addr → Nat → Nat → Int → World → Prop) (m : Nat), I m k b_b b_l b_c c w ∧ ∀ m k b_b b_l b_c c w, I m k b_b b_l b_c c w → kvm_KV_Snapshot.L2b k b_b b_l b_c c w  (fun k' b_b' b_l' b_c' c' w' => ∃ m', m' < m ∧ I m' k' b_b' b_l' b_c' c' w') R
theorem kvm_KV_Snapshot.L2_sound {R : ByteArray → World → Prop}  (k b_b : Option Addr) (b_l b_c : Nat) (c : Int) (w : World) (h : kvm_KV_Snapshot.L2 k b_b b_l b_c c w  R) :
    KW Tryz.prog 167 73 (kvm_KV_Snapshot.RV R) ([(0, [1, 1, 1, 1, 0, 1, 0, 0]), (2, [1, 1, 1, 1, 0, 1, 0, 0]), (1, [2]), (0, [1, 1, 1, 1, 1])].map (toItem (Tryz.f167.body.getD .skip))) [(0, .pointer k), (3, .slice b_b b_l b_c), (5, .int .i64 c)] w := by
  obtain ⟨I, m, hBase, hr⟩ := h
  refine KW.loop (fun m σ w => ∃ (k b_b : Option Addr) (b_l b_c : Nat) (c : Int), σ = [(0, .pointer k), (3, .slice b_b b_l b_c), (5, .int .i64 c)] ∧ I m k b_b b_l b_c c w) ?_ m _ w ⟨k, b_b, b_l, b_c, c, rfl, hBase⟩
  rintro m ih σ w ⟨k, b_b, b_l, b_c, c, rfl, hI⟩
  exact kvm_KV_Snapshot.L2b_sound  (N2 := fun k' b_b' b_l' b_c' c' w' => ∃ m', m' < m ∧ I m' k' b_b' b_l' b_c' c' w') (fun k' b_b' b_l' b_c' c' w' hx => by obtain ⟨m', hlt, hI'⟩ := hx; exact ih m' hlt _ w' ⟨k', b_b', b_l', b_c', c', rfl, hI'⟩) k b_b b_l b_c c w (hr m k b_b b_l b_c c w hI)
def kvm_KV_Snapshot.L1b (k b_b : Option Addr) (b_l b_c : Nat) (i : Int) (w : World)  (N1 : Option Addr → Option Addr → Nat → Nat → Int → World → Prop) (R : ByteArray → World → Prop) : Prop :=
  Pn k fun a =>
  LdI .i64 a w fun x19 =>
  Bm (decide (i < x19)) (
    Pn k fun a_1 =>
    (0 ≤ i ∧ i < ((4 : Nat) : Int)) ∧
    LdS (Addr.add (a_1.add 1) (i.toNat * 1)) w fun x29 =>
    kvm_str.Call b_b b_l b_c x29 w fun r30_b r30_l r30_c w1 =>
    Pn k fun a_2 =>
    (0 ≤ i ∧ i < ((4 : Nat) : Int)) ∧
    LdS (Addr.add (a_2.add 5) (i.toNat * 1)) w1 fun x37 =>
    kvm_str.Call r30_b r30_l r30_c x37 w1 fun r38_b r38_l r38_c w2 =>
    N1 k r38_b r38_l r38_c (IntKind.i64.wrap (i + (1 : Int))) w2) (
    kvm_KV_Snapshot.L2 k b_b b_l b_c (0 : Int) w  R)
theorem kvm_KV_Snapshot.L1b_eq (k b_b : Option Addr) (b_l b_c : Nat) (i : Int) (w : World)  (N1 : Option Addr → Option Addr → Nat → Nat → Int → World → Prop) (R : ByteArray → World → Prop) (sL2 : Option Addr → Option Addr → Nat → Nat → Int → World → Prop) :
    (
  Pn k fun a =>
  LdI .i64 a w fun x19 =>
  Bm (decide (i < x19)) (
    Pn k fun a_1 =>
    (0 ≤ i ∧ i < ((4 : Nat) : Int)) ∧
    LdS (Addr.add (a_1.add 1) (i.toNat * 1)) w fun x29 =>
    kvm_str.Call b_b b_l b_c x29 w fun r30_b r30_l r30_c w1 =>
    Pn k fun a_2 =>
    (0 ≤ i ∧ i < ((4 : Nat) : Int)) ∧
    LdS (Addr.add (a_2.add 5) (i.toNat * 1)) w1 fun x37 =>
    kvm_str.Call r30_b r30_l r30_c x37 w1 fun r38_b r38_l r38_c w2 =>
    N1 k r38_b r38_l r38_c (IntKind.i64.wrap (i + (1 : Int))) w2) (
    sL2 k b_b b_l b_c (0 : Int) w)) = kstep Tryz.prog 73 Tryz.f167.results.toList (Tryz.f167.body.getD .skip) (kvm_KV_Snapshot.RV R) (kvc Tryz.prog 73 Tryz.f167.results.toList (Tryz.f167.body.getD .skip) (kvm_KV_Snapshot.RV R) [([(0, [1, 1, 1, 0, 1, 0, 0]), (2, [1, 1, 1, 0, 1, 0, 0]), (1, [0]), (0, [1, 1, 1, 1])], fun σ w => dP (slotOf σ 0) fun k_ => dL (slotOf σ 3) fun b_b_ b_l_ b_c_ => dI .i64 (slotOf σ 4) fun i_ => N1 k_ b_b_ b_l_ b_c_ i_ w),
    ([(0, [1, 1, 1, 1, 0, 1, 0, 0]), (2, [1, 1, 1, 1, 0, 1, 0, 0]), (1, [2]), (0, [1, 1, 1, 1, 1])], fun σ w => dP (slotOf σ 0) fun k_ => dL (slotOf σ 3) fun b_b_ b_l_ b_c_ => dI .i64 (slotOf σ 5) fun c_ => sL2 k_ b_b_ b_l_ b_c_ c_ w)] 2000) [(0, [1, 1, 1, 0, 1, 0, 0]), (2, [1, 1, 1, 0, 1, 0, 0]), (1, [0]), (0, [1, 1, 1, 1])] [(0, .pointer k), (3, .slice b_b b_l b_c), (4, .int .i64 i)] w := by kernel_rfl
theorem kvm_KV_Snapshot.L1b_sound {R : ByteArray → World → Prop} {N1 : Option Addr → Option Addr → Nat → Nat → Int → World → Prop} (hN1 : ∀ k b_b b_l b_c i w, N1 k b_b b_l b_c i w → KW Tryz.prog 167 73 (kvm_KV_Snapshot.RV R) ([(0, [1, 1, 1, 0, 1, 0, 0]), (2, [1, 1, 1, 0, 1, 0, 0]), (1, [0]), (0, [1, 1, 1, 1])].map (toItem (Tryz.f167.body.getD .skip))) [(0, .pointer k), (3, .slice b_b b_l b_c), (4, .int .i64 i)] w) (k b_b : Option Addr) (b_l b_c : Nat) (i : Int) (w : World) (h : kvm_KV_Snapshot.L1b k b_b b_l b_c i w  N1 R) :
    KW Tryz.prog 167 73 (kvm_KV_Snapshot.RV R) ([(0, [1, 1, 1, 0, 1, 0, 0]), (2, [1, 1, 1, 0, 1, 0, 0]), (1, [0]), (0, [1, 1, 1, 1])].map (toItem (Tryz.f167.body.getD .skip))) [(0, .pointer k), (3, .slice b_b b_l b_c), (4, .int .i64 i)] w := by
  exact block_spec Tryz.func167 Tryz.mixed (stops_cons (fun σ w h => by
      obtain ⟨k_, e0, h⟩ := dP_elim h
      obtain ⟨b_b_, b_l_, b_c_, e1, h⟩ := dL_elim h
      obtain ⟨i_, e2, h⟩ := dI_elim h
      exact (hN1 k_ b_b_ b_l_ b_c_ i_ w h).weaken (Sub.cons (Sub.cons (Sub.cons (Sub.nil _) e2) e1) e0)) (stops_cons (fun σ w h => by
      obtain ⟨k_, e0, h⟩ := dP_elim h
      obtain ⟨b_b_, b_l_, b_c_, e1, h⟩ := dL_elim h
      obtain ⟨c_, e2, h⟩ := dI_elim h
      exact (kvm_KV_Snapshot.L2_sound  k_ b_b_ b_l_ b_c_ c_ w h).weaken (Sub.cons (Sub.cons (Sub.cons (Sub.nil _) e2) e1) e0)) stops_nil)) (Eq.mp (kvm_KV_Snapshot.L1b_eq k b_b b_l b_c i w  N1 R (fun k_ b_b_ b_l_ b_c_ c_ w => kvm_KV_Snapshot.L2 k_ b_b_ b_l_ b_c_ c_ w  R)) h)
def kvm_KV_Snapshot.L1 (k b_b : Option Addr) (b_l b_c : Nat) (i : Int) (w : World)  (R : ByteArray → World → Prop) : Prop :=
  ∃ (I : Nat → Option Addr → Option Addr → Nat → Nat → Int → World → Prop) (m : Nat), I m k b_b b_l b_c i w ∧ ∀ m k b_b b_l b_c i w, I m k b_b b_l b_c i w → kvm_KV_Snapshot.L1b k b_b b_l b_c i w  (fun k' b_b' b_l' b_c' i' w' => ∃ m', m' < m ∧ I m' k' b_b' b_l' b_c' i' w') R
theorem kvm_KV_Snapshot.L1_sound {R : ByteArray → World → Prop}  (k b_b : Option Addr) (b_l b_c : Nat) (i : Int) (w : World) (h : kvm_KV_Snapshot.L1 k b_b b_l b_c i w  R) :
    KW Tryz.prog 167 73 (kvm_KV_Snapshot.RV R) ([(0, [1, 1, 1, 0, 1, 0, 0]), (2, [1, 1, 1, 0, 1, 0, 0]), (1, [0]), (0, [1, 1, 1, 1])].map (toItem (Tryz.f167.body.getD .skip))) [(0, .pointer k), (3, .slice b_b b_l b_c), (4, .int .i64 i)] w := by
  obtain ⟨I, m, hBase, hr⟩ := h
  refine KW.loop (fun m σ w => ∃ (k b_b : Option Addr) (b_l b_c : Nat) (i : Int), σ = [(0, .pointer k), (3, .slice b_b b_l b_c), (4, .int .i64 i)] ∧ I m k b_b b_l b_c i w) ?_ m _ w ⟨k, b_b, b_l, b_c, i, rfl, hBase⟩
  rintro m ih σ w ⟨k, b_b, b_l, b_c, i, rfl, hI⟩
  exact kvm_KV_Snapshot.L1b_sound  (N1 := fun k' b_b' b_l' b_c' i' w' => ∃ m', m' < m ∧ I m' k' b_b' b_l' b_c' i' w') (fun k' b_b' b_l' b_c' i' w' hx => by obtain ⟨m', hlt, hI'⟩ := hx; exact ih m' hlt _ w' ⟨k', b_b', b_l', b_c', i', rfl, hI'⟩) k b_b b_l b_c i w (hr m k b_b b_l b_c i w hI)
def kvm_KV_Snapshot.B0 (k : Option Addr) (w : World)   (R : ByteArray → World → Prop) : Prop :=
  Make 5 (.int .u8 (0 : Int)) 1 1 (0 : Int) (128 : Int) w fun b6 w1 =>
  Pn k fun a =>
  LdI .i64 a w1 fun x11 =>
  New (.cells #[.int .u8 (IntKind.u8.wrap x11)] 5) w1 fun b13 w2 =>
  Append 5 (.int .u8 (0 : Int)) 1 1 (some ⟨b6, 0, none⟩) 0 128 (some ⟨b13, 0, none⟩) 1 w2 fun b14 c14 w3 =>
  kvm_KV_Snapshot.L1 k b14 (0 + 1) c14 (0 : Int) w3  R
theorem kvm_KV_Snapshot.B0_eq (k : Option Addr) (w : World)   (R : ByteArray → World → Prop) (sL1 : Option Addr → Option Addr → Nat → Nat → Int → World → Prop) :
    (
  Make 5 (.int .u8 (0 : Int)) 1 1 (0 : Int) (128 : Int) w fun b6 w1 =>
  Pn k fun a =>
  LdI .i64 a w1 fun x11 =>
  New (.cells #[.int .u8 (IntKind.u8.wrap x11)] 5) w1 fun b13 w2 =>
  Append 5 (.int .u8 (0 : Int)) 1 1 (some ⟨b6, 0, none⟩) 0 128 (some ⟨b13, 0, none⟩) 1 w2 fun b14 c14 w3 =>
  sL1 k b14 (0 + 1) c14 (0 : Int) w3) = kstep Tryz.prog 73 Tryz.f167.results.toList (Tryz.f167.body.getD .skip) (kvm_KV_Snapshot.RV R) (kvc Tryz.prog 73 Tryz.f167.results.toList (Tryz.f167.body.getD .skip) (kvm_KV_Snapshot.RV R) [([(0, [1, 1, 1, 0, 1, 0, 0]), (2, [1, 1, 1, 0, 1, 0, 0]), (1, [0]), (0, [1, 1, 1, 1])], fun σ w => dP (slotOf σ 0) fun k_ => dL (slotOf σ 3) fun b_b_ b_l_ b_c_ => dI .i64 (slotOf σ 4) fun i_ => sL1 k_ b_b_ b_l_ b_c_ i_ w)] 2000) [(0, [])] [(0, .pointer k)] w := by kernel_rfl
theorem kvm_KV_Snapshot.B0_sound {R : ByteArray → World → Prop}  (k : Option Addr) (w : World) (h : kvm_KV_Snapshot.B0 k w   R) :
    KW Tryz.prog 167 73 (kvm_KV_Snapshot.RV R) ([(0, [])].map (toItem (Tryz.f167.body.getD .skip))) [(0, .pointer k)] w := by
  exact block_spec Tryz.func167 Tryz.mixed (stops_cons (fun σ w h => by
      obtain ⟨k_, e0, h⟩ := dP_elim h
      obtain ⟨b_b_, b_l_, b_c_, e1, h⟩ := dL_elim h
      obtain ⟨i_, e2, h⟩ := dI_elim h
      exact (kvm_KV_Snapshot.L1_sound  k_ b_b_ b_l_ b_c_ i_ w h).weaken (Sub.cons (Sub.cons (Sub.cons (Sub.nil _) e2) e1) e0)) stops_nil) (Eq.mp (kvm_KV_Snapshot.B0_eq k w   R (fun k_ b_b_ b_l_ b_c_ i_ w => kvm_KV_Snapshot.L1 k_ b_b_ b_l_ b_c_ i_ w  R)) h)
theorem kvm_KV_Snapshot.sound (k : Option Addr) (w : World) (R : ByteArray → World → Prop) (h : kvm_KV_Snapshot.B0 k w R) : kvm_KV_Snapshot.Call k w R := by
  have hc := calls_of_block (args := #[.pointer k]) Tryz.func167 (body := (Tryz.f167.body.getD .skip)) (by kernel_rfl) (by kernel_rfl) (args_slot _) (kvm_KV_Snapshot.B0_sound k w h)
  exact hc.mono fun e w' he => by
    obtain ⟨v, rfl, hv⟩ := he
    exact kvm_KV_Snapshot.RV_elim hv
end Go.Proofs.Qxb6500430aGreat
