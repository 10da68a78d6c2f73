import Derived.Test.Qxb6500433aGreatSig
set_option maxRecDepth 100000
set_option linter.unusedVariables false
open Go.Vc
namespace Go.Proofs.Qxb6500433aGreat
def syncm_Sync_send.B1 (s : Option Addr) (p : Int) (t4 : Nat) (last : Int) (m0 : Nat) (i : Int) (t109 : Bool) (w : World) (N1 : Option Addr → Int → Nat → Int → Nat → Int → World → Prop)  (R : Int → Int → Int → Int → Int → Int → Int → Bool → Option Addr → Nat → Nat → ByteArray → World → Prop) : Prop :=
  Bm t109 (
    Pn s fun a =>
    LdP a w fun x116 =>
    rlogm_Log_At.Call x116 i w fun r118_0_0 r118_0_1 r118_1 w1 =>
    New (.cells #[.int .i64 (0 : Int), .string (ByteArray.mk #[])] 103) w1 fun e_ w2 =>
    Sts [.int .i64 r118_0_0, .string r118_0_1] ⟨e_, 0, none⟩ 0 w2 fun w3 =>
    LdL ⟨m0, 8, none⟩ w3 fun x122_b x122_l x122_c =>
    LdI .i64 ⟨e_, 0, none⟩ w3 fun x123_0 =>
    LdS ⟨e_, 1, none⟩ w3 fun x123_1 =>
    New (.cells #[.int .i64 x123_0, .string x123_1] 103) w3 fun b124 w4 =>
    Append 103 (.agg #[.int .i64 (0 : Int), .string (ByteArray.mk #[])]) 2 24 x122_b x122_l x122_c (some ⟨b124, 0, none⟩) 1 w4 fun b125 c125 w5 =>
    Sts [.slice b125 (x122_l + 1) c125] ⟨m0, 8, none⟩ 0 w5 fun w6 =>
    N1 s p t4 last m0 (IntKind.i64.wrap (i + (1 : Int))) w6) (
    LdI .i64 ⟨m0, 0, none⟩ w fun x127_0 =>
    LdI .i64 ⟨m0, 1, none⟩ w fun x127_1 =>
    LdI .i64 ⟨m0, 2, none⟩ w fun x127_2 =>
    LdI .i64 ⟨m0, 3, none⟩ w fun x127_3 =>
    LdI .i64 ⟨m0, 4, none⟩ w fun x127_4 =>
    LdI .i64 ⟨m0, 5, none⟩ w fun x127_5 =>
    LdI .i64 ⟨m0, 6, none⟩ w fun x127_6 =>
    LdB ⟨m0, 7, none⟩ w fun x127_7 =>
    LdL ⟨m0, 8, none⟩ w fun x127_8_b x127_8_l x127_8_c =>
    LdS ⟨m0, 9, none⟩ w fun x127_9 =>
    Sts [.int .i64 x127_0, .int .i64 x127_1, .int .i64 x127_2, .int .i64 x127_3, .int .i64 x127_4, .int .i64 x127_5, .int .i64 x127_6, .bool x127_7, .slice x127_8_b x127_8_l x127_8_c, .string x127_9] ⟨t4, 0, none⟩ 0 w fun w7 =>
    LdI .i64 ⟨t4, 0, none⟩ w7 fun r_0 =>
    LdI .i64 ⟨t4, 1, none⟩ w7 fun r_1 =>
    LdI .i64 ⟨t4, 2, none⟩ w7 fun r_2 =>
    LdI .i64 ⟨t4, 3, none⟩ w7 fun r_3 =>
    LdI .i64 ⟨t4, 4, none⟩ w7 fun r_4 =>
    LdI .i64 ⟨t4, 5, none⟩ w7 fun r_5 =>
    LdI .i64 ⟨t4, 6, none⟩ w7 fun r_6 =>
    LdB ⟨t4, 7, none⟩ w7 fun r_7 =>
    LdL ⟨t4, 8, none⟩ w7 fun r_8_b r_8_l r_8_c =>
    LdS ⟨t4, 9, none⟩ w7 fun r_9 =>
    R r_0 r_1 r_2 r_3 r_4 r_5 r_6 r_7 r_8_b r_8_l r_8_c r_9 w7)
theorem syncm_Sync_send.B1_eq (s : Option Addr) (p : Int) (t4 : Nat) (last : Int) (m0 : Nat) (i : Int) (t109 : Bool) (w : World) (N1 : Option Addr → Int → Nat → Int → Nat → Int → World → Prop)  (R : Int → Int → Int → Int → Int → Int → Int → Bool → Option Addr → Nat → Nat → ByteArray → World → Prop)  :
    (
  Bm t109 (
    Pn s fun a =>
    LdP a w fun x116 =>
    rlogm_Log_At.Call x116 i w fun r118_0_0 r118_0_1 r118_1 w1 =>
    New (.cells #[.int .i64 (0 : Int), .string (ByteArray.mk #[])] 103) w1 fun e_ w2 =>
    Sts [.int .i64 r118_0_0, .string r118_0_1] ⟨e_, 0, none⟩ 0 w2 fun w3 =>
    LdL ⟨m0, 8, none⟩ w3 fun x122_b x122_l x122_c =>
    LdI .i64 ⟨e_, 0, none⟩ w3 fun x123_0 =>
    LdS ⟨e_, 1, none⟩ w3 fun x123_1 =>
    New (.cells #[.int .i64 x123_0, .string x123_1] 103) w3 fun b124 w4 =>
    Append 103 (.agg #[.int .i64 (0 : Int), .string (ByteArray.mk #[])]) 2 24 x122_b x122_l x122_c (some ⟨b124, 0, none⟩) 1 w4 fun b125 c125 w5 =>
    Sts [.slice b125 (x122_l + 1) c125] ⟨m0, 8, none⟩ 0 w5 fun w6 =>
    N1 s p t4 last m0 (IntKind.i64.wrap (i + (1 : Int))) w6) (
    LdI .i64 ⟨m0, 0, none⟩ w fun x127_0 =>
    LdI .i64 ⟨m0, 1, none⟩ w fun x127_1 =>
    LdI .i64 ⟨m0, 2, none⟩ w fun x127_2 =>
    LdI .i64 ⟨m0, 3, none⟩ w fun x127_3 =>
    LdI .i64 ⟨m0, 4, none⟩ w fun x127_4 =>
    LdI .i64 ⟨m0, 5, none⟩ w fun x127_5 =>
    LdI .i64 ⟨m0, 6, none⟩ w fun x127_6 =>
    LdB ⟨m0, 7, none⟩ w fun x127_7 =>
    LdL ⟨m0, 8, none⟩ w fun x127_8_b x127_8_l x127_8_c =>
    LdS ⟨m0, 9, none⟩ w fun x127_9 =>
    Sts [.int .i64 x127_0, .int .i64 x127_1, .int .i64 x127_2, .int .i64 x127_3, .int .i64 x127_4, .int .i64 x127_5, .int .i64 x127_6, .bool x127_7, .slice x127_8_b x127_8_l x127_8_c, .string x127_9] ⟨t4, 0, none⟩ 0 w fun w7 =>
    LdI .i64 ⟨t4, 0, none⟩ w7 fun r_0 =>
    LdI .i64 ⟨t4, 1, none⟩ w7 fun r_1 =>
    LdI .i64 ⟨t4, 2, none⟩ w7 fun r_2 =>
    LdI .i64 ⟨t4, 3, none⟩ w7 fun r_3 =>
    LdI .i64 ⟨t4, 4, none⟩ w7 fun r_4 =>
    LdI .i64 ⟨t4, 5, none⟩ w7 fun r_5 =>
    LdI .i64 ⟨t4, 6, none⟩ w7 fun r_6 =>
    LdB ⟨t4, 7, none⟩ w7 fun r_7 =>
    LdL ⟨t4, 8, none⟩ w7 fun r_8_b r_8_l r_8_c =>
    LdS ⟨t4, 9, none⟩ w7 fun r_9 =>
    R r_0 r_1 r_2 r_3 r_4 r_5 r_6 r_7 r_8_b r_8_l r_8_c r_9 w7)) = kstep Tryz.prog 128 Tryz.f128.results.toList (Tryz.f128.body.getD .skip) (syncm_Sync_send.RV R) (kvc Tryz.prog 128 Tryz.f128.results.toList (Tryz.f128.body.getD .skip) (syncm_Sync_send.RV R) [([(0, [1, 1, 1, 1, 1, 1, 1, 1, 1, 0, 1, 0, 0]), (2, [1, 1, 1, 1, 1, 1, 1, 1, 1, 0, 1, 0, 0]), (1, [0]), (0, [1, 1, 1, 1, 1, 1, 1, 1, 1, 1])], fun σ w => dP (slotOf σ 0) fun s_ => dI .i64 (slotOf σ 1) fun p_ => dK (slotOf σ 4) fun t4_ => dI .i64 (slotOf σ 8) fun last_ => dK (slotOf σ 9) fun m0_ => dI .i64 (slotOf σ 12) fun i_ => N1 s_ p_ t4_ last_ m0_ i_ w)] 2000) [(0, [1, 1, 1, 1, 1, 1, 1, 1, 1, 0, 1, 0, 0, 0, 1]), (0, [1, 1, 1, 1, 1, 1, 1, 1, 1, 0, 1, 0, 0, 1]), (2, [1, 1, 1, 1, 1, 1, 1, 1, 1, 0, 1, 0, 0]), (1, [0]), (0, [1, 1, 1, 1, 1, 1, 1, 1, 1, 1])] [(0, .pointer s), (1, .int .i64 p), (4, .pointer (some ⟨t4, 0, none⟩)), (8, .int .i64 last), (9, .pointer (some ⟨m0, 0, none⟩)), (12, .int .i64 i), (109, .bool t109)] w := by kernel_rfl
theorem syncm_Sync_send.B1_sound {R : Int → Int → Int → Int → Int → Int → Int → Bool → Option Addr → Nat → Nat → ByteArray → World → Prop} {N1 : Option Addr → Int → Nat → Int → Nat → Int → World → Prop} (hN1 : ∀ s p t4 last m0 i w, N1 s p t4 last m0 i w → KW Tryz.prog 128 128 (syncm_Sync_send.RV R) ([(0, [1, 1, 1, 1, 1, 1, 1, 1, 1, 0, 1, 0, 0]), (2, [1, 1, 1, 1, 1, 1, 1, 1, 1, 0, 1, 0, 0]), (1, [0]), (0, [1, 1, 1, 1, 1, 1, 1, 1, 1, 1])].map (toItem (Tryz.f128.body.getD .skip))) [(0, .pointer s), (1, .int .i64 p), (4, .pointer (some ⟨t4, 0, none⟩)), (8, .int .i64 last), (9, .pointer (some ⟨m0, 0, none⟩)), (12, .int .i64 i)] w) (s : Option Addr) (p : Int) (t4 : Nat) (last : Int) (m0 : Nat) (i : Int) (t109 : Bool) (w : World) (h : syncm_Sync_send.B1 s p t4 last m0 i t109 w N1  R) :
    KW Tryz.prog 128 128 (syncm_Sync_send.RV R) ([(0, [1, 1, 1, 1, 1, 1, 1, 1, 1, 0, 1, 0, 0, 0, 1]), (0, [1, 1, 1, 1, 1, 1, 1, 1, 1, 0, 1, 0, 0, 1]), (2, [1, 1, 1, 1, 1, 1, 1, 1, 1, 0, 1, 0, 0]), (1, [0]), (0, [1, 1, 1, 1, 1, 1, 1, 1, 1, 1])].map (toItem (Tryz.f128.body.getD .skip))) [(0, .pointer s), (1, .int .i64 p), (4, .pointer (some ⟨t4, 0, none⟩)), (8, .int .i64 last), (9, .pointer (some ⟨m0, 0, none⟩)), (12, .int .i64 i), (109, .bool t109)] w := by
  exact block_spec Tryz.func128 Tryz.mixed (stops_cons (fun σ w h => by
      obtain ⟨s_, e0, h⟩ := dP_elim h
      obtain ⟨p_, e1, h⟩ := dI_elim h
      obtain ⟨t4_, e2, h⟩ := dK_elim h
      obtain ⟨last_, e3, h⟩ := dI_elim h
      obtain ⟨m0_, e4, h⟩ := dK_elim h
      obtain ⟨i_, e5, h⟩ := dI_elim h
      exact (hN1 s_ p_ t4_ last_ m0_ i_ w h).weaken (Sub.cons (Sub.cons (Sub.cons (Sub.cons (Sub.cons (Sub.cons (Sub.nil _) e5) e4) e3) e2) e1) e0)) stops_nil) (Eq.mp (syncm_Sync_send.B1_eq s p t4 last m0 i t109 w N1  R ) h)
def syncm_Sync_send.L1b (s : Option Addr) (p : Int) (t4 : Nat) (last : Int) (m0 : Nat) (i : Int) (w : World)  (N1 : Option Addr → Int → Nat → Int → Nat → Int → World → Prop) (R : Int → Int → Int → Int → Int → Int → Int → Bool → Option Addr → Nat → Nat → ByteArray → World → Prop) : Prop :=
  Bm (decide (i ≤ last)) (
    Pn s fun a =>
    (0 ≤ p ∧ p < ((3 : Nat) : Int)) ∧
    LdI .i64 (Addr.add (a.add 3) (p.toNat * 1)) w fun x106 =>
    syncm_Sync_send.B1 s p t4 last m0 i (decide (i < (IntKind.i64.wrap (x106 + (2 : Int))))) w N1 R) (
    syncm_Sync_send.B1 s p t4 last m0 i false w N1 R)
theorem syncm_Sync_send.L1b_eq (s : Option Addr) (p : Int) (t4 : Nat) (last : Int) (m0 : Nat) (i : Int) (w : World)  (N1 : Option Addr → Int → Nat → Int → Nat → Int → World → Prop) (R : Int → Int → Int → Int → Int → Int → Int → Bool → Option Addr → Nat → Nat → ByteArray → World → Prop) (sB1 : Option Addr → Int → Nat → Int → Nat → Int → Bool → World → Prop) :
    (
  Bm (decide (i ≤ last)) (
    Pn s fun a =>
    (0 ≤ p ∧ p < ((3 : Nat) : Int)) ∧
    LdI .i64 (Addr.add (a.add 3) (p.toNat * 1)) w fun x106 =>
    sB1 s p t4 last m0 i (decide (i < (IntKind.i64.wrap (x106 + (2 : Int))))) w) (
    sB1 s p t4 last m0 i false w)) = kstep Tryz.prog 128 Tryz.f128.results.toList (Tryz.f128.body.getD .skip) (syncm_Sync_send.RV R) (kvc Tryz.prog 128 Tryz.f128.results.toList (Tryz.f128.body.getD .skip) (syncm_Sync_send.RV R) [([(0, [1, 1, 1, 1, 1, 1, 1, 1, 1, 0, 1, 0, 0, 0, 1]), (0, [1, 1, 1, 1, 1, 1, 1, 1, 1, 0, 1, 0, 0, 1]), (2, [1, 1, 1, 1, 1, 1, 1, 1, 1, 0, 1, 0, 0]), (1, [0]), (0, [1, 1, 1, 1, 1, 1, 1, 1, 1, 1])], fun σ w => dP (slotOf σ 0) fun s_ => dI .i64 (slotOf σ 1) fun p_ => dK (slotOf σ 4) fun t4_ => dI .i64 (slotOf σ 8) fun last_ => dK (slotOf σ 9) fun m0_ => dI .i64 (slotOf σ 12) fun i_ => dB (slotOf σ 109) fun t109_ => sB1 s_ p_ t4_ last_ m0_ i_ t109_ w)] 2000) [(0, [1, 1, 1, 1, 1, 1, 1, 1, 1, 0, 1, 0, 0]), (2, [1, 1, 1, 1, 1, 1, 1, 1, 1, 0, 1, 0, 0]), (1, [0]), (0, [1, 1, 1, 1, 1, 1, 1, 1, 1, 1])] [(0, .pointer s), (1, .int .i64 p), (4, .pointer (some ⟨t4, 0, none⟩)), (8, .int .i64 last), (9, .pointer (some ⟨m0, 0, none⟩)), (12, .int .i64 i)] w := by kernel_rfl
theorem syncm_Sync_send.L1b_sound {R : Int → Int → Int → Int → Int → Int → Int → Bool → Option Addr → Nat → Nat → ByteArray → World → Prop} {N1 : Option Addr → Int → Nat → Int → Nat → Int → World → Prop} (hN1 : ∀ s p t4 last m0 i w, N1 s p t4 last m0 i w → KW Tryz.prog 128 128 (syncm_Sync_send.RV R) ([(0, [1, 1, 1, 1, 1, 1, 1, 1, 1, 0, 1, 0, 0]), (2, [1, 1, 1, 1, 1, 1, 1, 1, 1, 0, 1, 0, 0]), (1, [0]), (0, [1, 1, 1, 1, 1, 1, 1, 1, 1, 1])].map (toItem (Tryz.f128.body.getD .skip))) [(0, .pointer s), (1, .int .i64 p), (4, .pointer (some ⟨t4, 0, none⟩)), (8, .int .i64 last), (9, .pointer (some ⟨m0, 0, none⟩)), (12, .int .i64 i)] w) (s : Option Addr) (p : Int) (t4 : Nat) (last : Int) (m0 : Nat) (i : Int) (w : World) (h : syncm_Sync_send.L1b s p t4 last m0 i w  N1 R) :
    KW Tryz.prog 128 128 (syncm_Sync_send.RV R) ([(0, [1, 1, 1, 1, 1, 1, 1, 1, 1, 0, 1, 0, 0]), (2, [1, 1, 1, 1, 1, 1, 1, 1, 1, 0, 1, 0, 0]), (1, [0]), (0, [1, 1, 1, 1, 1, 1, 1, 1, 1, 1])].map (toItem (Tryz.f128.body.getD .skip))) [(0, .pointer s), (1, .int .i64 p), (4, .pointer (some ⟨t4, 0, none⟩)), (8, .int .i64 last), (9, .pointer (some ⟨m0, 0, none⟩)), (12, .int .i64 i)] w := by
  exact block_spec Tryz.func128 Tryz.mixed (stops_cons (fun σ w h => by
      obtain ⟨s_, e0, h⟩ := dP_elim h
      obtain ⟨p_, e1, h⟩ := dI_elim h
      obtain ⟨t4_, e2, h⟩ := dK_elim h
      obtain ⟨last_, e3, h⟩ := dI_elim h
      obtain ⟨m0_, e4, h⟩ := dK_elim h
      obtain ⟨i_, e5, h⟩ := dI_elim h
      obtain ⟨t109_, e6, h⟩ := dB_elim h
      exact (syncm_Sync_send.B1_sound hN1 s_ p_ t4_ last_ m0_ i_ t109_ w h).weaken (Sub.cons (Sub.cons (Sub.cons (Sub.cons (Sub.cons (Sub.cons (Sub.cons (Sub.nil _) e6) e5) e4) e3) e2) e1) e0)) stops_nil) (Eq.mp (syncm_Sync_send.L1b_eq s p t4 last m0 i w  N1 R (fun s_ p_ t4_ last_ m0_ i_ t109_ w => syncm_Sync_send.B1 s_ p_ t4_ last_ m0_ i_ t109_ w N1 R)) h)
def syncm_Sync_send.L1 (s : Option Addr) (p : Int) (t4 : Nat) (last : Int) (m0 : Nat) (i : Int) (w : World)  (R : Int → Int → Int → Int → Int → Int → Int → Bool → Option Addr → Nat → Nat → ByteArray → World → Prop) : Prop :=
  ∃ (I : Nat → Option Addr → Int → Nat → Int → Nat → Int → World → Prop) (m : Nat), I m s p t4 last m0 i w ∧ ∀ m s p t4 last m0 i w, I m s p t4 last m0 i w → syncm_Sync_send.L1b s p t4 last m0 i w  (fun s' p' t4' last' m0' i' w' => ∃ m', m' < m ∧ I m' s' p' t4' last' m0' i' w') R
theorem syncm_Sync_send.L1_sound {R : Int → Int → Int → Int → Int → Int → Int → Bool → Option Addr → Nat → Nat → ByteArray → World → Prop}  (s : Option Addr) (p : Int) (t4 : Nat) (last : Int) (m0 : Nat) (i : Int) (w : World) (h : syncm_Sync_send.L1 s p t4 last m0 i w  R) :
    KW Tryz.prog 128 128 (syncm_Sync_send.RV R) ([(0, [1, 1, 1, 1, 1, 1, 1, 1, 1, 0, 1, 0, 0]), (2, [1, 1, 1, 1, 1, 1, 1, 1, 1, 0, 1, 0, 0]), (1, [0]), (0, [1, 1, 1, 1, 1, 1, 1, 1, 1, 1])].map (toItem (Tryz.f128.body.getD .skip))) [(0, .pointer s), (1, .int .i64 p), (4, .pointer (some ⟨t4, 0, none⟩)), (8, .int .i64 last), (9, .pointer (some ⟨m0, 0, none⟩)), (12, .int .i64 i)] w := by
  obtain ⟨I, m, hBase, hr⟩ := h
  refine KW.loop (fun m σ w => ∃ (s : Option Addr) (p : Int) (t4 : Nat) (last : Int) (m0 : Nat) (i : Int), σ = [(0, .pointer s), (1, .int .i64 p), (4, .pointer (some ⟨t4, 0, none⟩)), (8, .int .i64 last), (9, .pointer (some ⟨m0, 0, none⟩)), (12, .int .i64 i)] ∧ I m s p t4 last m0 i w) ?_ m _ w ⟨s, p, t4, last, m0, i, rfl, hBase⟩
  rintro m ih σ w ⟨s, p, t4, last, m0, i, rfl, hI⟩
  exact syncm_Sync_send.L1b_sound  (N1 := fun s' p' t4' last' m0' i' w' => ∃ m', m' < m ∧ I m' s' p' t4' last' m0' i' w') (fun s' p' t4' last' m0' i' w' hx => by obtain ⟨m', hlt, hI'⟩ := hx; exact ih m' hlt _ w' ⟨s', p', t4', last', m0', i', rfl, hI'⟩) s p t4 last m0 i w (hr m s p t4 last m0 i w hI)
def syncm_Sync_send.B0 (s : Option Addr) (p : Int) (w : World)   (R : Int → Int → Int → Int → Int → Int → Int → Bool → Option Addr → Nat → Nat → ByteArray → World → Prop) : Prop :=
  New (.cells #[.int .i64 (0 : Int), .int .i64 (0 : Int), .int .i64 (0 : Int), .int .i64 (0 : Int), .int .i64 (0 : Int), .int .i64 (0 : Int), .int .i64 (0 : Int), .bool false, .slice none 0 0, .string (ByteArray.mk #[])] 40) w fun b4 w1 =>
  Pn s fun a =>
  LdP (a.add 1) w1 fun x18 =>
  electm_Elect_Id.Call x18 w1 fun r19 w2 =>
  Pn s fun a_1 =>
  LdP (a_1.add 1) w2 fun x23 =>
  electm_Elect_Term.Call x23 w2 fun r24 w3 =>
  Pn s fun a_2 =>
  LdP a_2 w3 fun x28 =>
  rlogm_Log_Base.Call x28 w3 fun r29 w4 =>
  Pn s fun a_3 =>
  LdP a_3 w4 fun x33 =>
  rlogm_Log_Last.Call x33 w4 fun r34 w5 =>
  New (.cells #[.int .i64 (0 : Int), .int .i64 (0 : Int), .int .i64 (0 : Int), .int .i64 (0 : Int), .int .i64 (0 : Int), .int .i64 (0 : Int), .int .i64 (0 : Int), .bool false, .slice none 0 0, .string (ByteArray.mk #[])] 40) w5 fun m0_ w6 =>
  Sts [.int .i64 (0 : Int), .int .i64 r19, .int .i64 p, .int .i64 r24, .int .i64 (0 : Int), .int .i64 (0 : Int), .int .i64 (0 : Int), .bool false, .slice none 0 0, .string (ByteArray.mk #[])] ⟨m0_, 0, none⟩ 0 w6 fun w7 =>
  Pn s fun a_4 =>
  (0 ≤ p ∧ p < ((3 : Nat) : Int)) ∧
  LdI .i64 (Addr.add (a_4.add 3) (p.toNat * 1)) w7 fun x44 =>
  Bm (decide (x44 ≤ r29)) (
    Pn s fun a_5 =>
    LdP a_5 w7 fun x50 =>
    rlogm_Log_BaseTerm.Call x50 w7 fun r51 w8 =>
    Pn s fun a_6 =>
    LdP a_6 w8 fun x55 =>
    rlogm_Log_Snap.Call x55 w8 fun r56 w9 =>
    Sts [.int .i64 (5 : Int)] ⟨m0_, 0, none⟩ 0 w9 fun w10 =>
    Sts [.int .i64 r29] ⟨m0_, 4, none⟩ 0 w10 fun w11 =>
    Sts [.int .i64 r51] ⟨m0_, 5, none⟩ 0 w11 fun w12 =>
    Sts [.string r56] ⟨m0_, 9, none⟩ 0 w12 fun w13 =>
    LdI .i64 ⟨m0_, 0, none⟩ w13 fun x64_0 =>
    LdI .i64 ⟨m0_, 1, none⟩ w13 fun x64_1 =>
    LdI .i64 ⟨m0_, 2, none⟩ w13 fun x64_2 =>
    LdI .i64 ⟨m0_, 3, none⟩ w13 fun x64_3 =>
    LdI .i64 ⟨m0_, 4, none⟩ w13 fun x64_4 =>
    LdI .i64 ⟨m0_, 5, none⟩ w13 fun x64_5 =>
    LdI .i64 ⟨m0_, 6, none⟩ w13 fun x64_6 =>
    LdB ⟨m0_, 7, none⟩ w13 fun x64_7 =>
    LdL ⟨m0_, 8, none⟩ w13 fun x64_8_b x64_8_l x64_8_c =>
    LdS ⟨m0_, 9, none⟩ w13 fun x64_9 =>
    Sts [.int .i64 x64_0, .int .i64 x64_1, .int .i64 x64_2, .int .i64 x64_3, .int .i64 x64_4, .int .i64 x64_5, .int .i64 x64_6, .bool x64_7, .slice x64_8_b x64_8_l x64_8_c, .string x64_9] ⟨b4, 0, none⟩ 0 w13 fun w14 =>
    LdI .i64 ⟨b4, 0, none⟩ w14 fun r_0 =>
    LdI .i64 ⟨b4, 1, none⟩ w14 fun r_1 =>
    LdI .i64 ⟨b4, 2, none⟩ w14 fun r_2 =>
    LdI .i64 ⟨b4, 3, none⟩ w14 fun r_3 =>
    LdI .i64 ⟨b4, 4, none⟩ w14 fun r_4 =>
    LdI .i64 ⟨b4, 5, none⟩ w14 fun r_5 =>
    LdI .i64 ⟨b4, 6, none⟩ w14 fun r_6 =>
    LdB ⟨b4, 7, none⟩ w14 fun r_7 =>
    LdL ⟨b4, 8, none⟩ w14 fun r_8_b r_8_l r_8_c =>
    LdS ⟨b4, 9, none⟩ w14 fun r_9 =>
    R r_0 r_1 r_2 r_3 r_4 r_5 r_6 r_7 r_8_b r_8_l r_8_c r_9 w14) (
    Pn s fun a_7 =>
    (0 ≤ p ∧ p < ((3 : Nat) : Int)) ∧
    LdI .i64 (Addr.add (a_7.add 3) (p.toNat * 1)) w7.drew fun x70 =>
    Pn s fun a_8 =>
    LdI .i64 (a_8.add 2) w7.drew fun x75 =>
    Sts [.int .i64 (3 : Int)] ⟨m0_, 0, none⟩ 0 w7.drew fun w15 =>
    w15.cell? (a_8.add 2) = some (.int .i64 x75) ∧
    w15.cell? (Addr.add (a_7.add 3) (p.toNat * 1)) = some (.int .i64 x70) ∧
    Sts [.int .i64 (IntKind.i64.wrap (x70 - (1 : Int)))] ⟨m0_, 4, none⟩ 0 w15 fun w16 =>
    w16.cell? (a_8.add 2) = some (.int .i64 x75) ∧
    Sts [.int .i64 x75] ⟨m0_, 6, none⟩ 0 w16 fun w17 =>
    Pn s fun a_9 =>
    LdP a_9 w17.drew fun x83 =>
    LdI .i64 ⟨m0_, 4, none⟩ w17.drew fun x85 =>
    rlogm_Log_TermAt.Call x83 x85 w17.drew fun r86_0 r86_1 w18 =>
    Sts [.int .i64 r86_0] ⟨m0_, 5, none⟩ 0 w18 fun w19 =>
    Pn s fun a_10 =>
    (0 ≤ p ∧ p < ((3 : Nat) : Int)) ∧
    LdI .i64 (Addr.add (a_10.add 3) (p.toNat * 1)) w19 fun x95 =>
    syncm_Sync_send.L1 s p b4 r34 m0_ x95 w19  R)
theorem syncm_Sync_send.B0_eq (s : Option Addr) (p : Int) (w : World)   (R : Int → Int → Int → Int → Int → Int → Int → Bool → Option Addr → Nat → Nat → ByteArray → World → Prop) (sL1 : Option Addr → Int → Nat → Int → Nat → Int → World → Prop) :
    (
  New (.cells #[.int .i64 (0 : Int), .int .i64 (0 : Int), .int .i64 (0 : Int), .int .i64 (0 : Int), .int .i64 (0 : Int), .int .i64 (0 : Int), .int .i64 (0 : Int), .bool false, .slice none 0 0, .string (ByteArray.mk #[])] 40) w fun b4 w1 =>
  Pn s fun a =>
  LdP (a.add 1) w1 fun x18 =>
  electm_Elect_Id.Call x18 w1 fun r19 w2 =>
  Pn s fun a_1 =>
  LdP (a_1.add 1) w2 fun x23 =>
  electm_Elect_Term.Call x23 w2 fun r24 w3 =>
  Pn s fun a_2 =>
  LdP a_2 w3 fun x28 =>
  rlogm_Log_Base.Call x28 w3 fun r29 w4 =>
  Pn s fun a_3 =>
  LdP a_3 w4 fun x33 =>
  rlogm_Log_Last.Call x33 w4 fun r34 w5 =>
  New (.cells #[.int .i64 (0 : Int), .int .i64 (0 : Int), .int .i64 (0 : Int), .int .i64 (0 : Int), .int .i64 (0 : Int), .int .i64 (0 : Int), .int .i64 (0 : Int), .bool false, .slice none 0 0, .string (ByteArray.mk #[])] 40) w5 fun m0_ w6 =>
  Sts [.int .i64 (0 : Int), .int .i64 r19, .int .i64 p, .int .i64 r24, .int .i64 (0 : Int), .int .i64 (0 : Int), .int .i64 (0 : Int), .bool false, .slice none 0 0, .string (ByteArray.mk #[])] ⟨m0_, 0, none⟩ 0 w6 fun w7 =>
  Pn s fun a_4 =>
  (0 ≤ p ∧ p < ((3 : Nat) : Int)) ∧
  LdI .i64 (Addr.add (a_4.add 3) (p.toNat * 1)) w7 fun x44 =>
  Bm (decide (x44 ≤ r29)) (
    Pn s fun a_5 =>
    LdP a_5 w7 fun x50 =>
    rlogm_Log_BaseTerm.Call x50 w7 fun r51 w8 =>
    Pn s fun a_6 =>
    LdP a_6 w8 fun x55 =>
    rlogm_Log_Snap.Call x55 w8 fun r56 w9 =>
    Sts [.int .i64 (5 : Int)] ⟨m0_, 0, none⟩ 0 w9 fun w10 =>
    Sts [.int .i64 r29] ⟨m0_, 4, none⟩ 0 w10 fun w11 =>
    Sts [.int .i64 r51] ⟨m0_, 5, none⟩ 0 w11 fun w12 =>
    Sts [.string r56] ⟨m0_, 9, none⟩ 0 w12 fun w13 =>
    LdI .i64 ⟨m0_, 0, none⟩ w13 fun x64_0 =>
    LdI .i64 ⟨m0_, 1, none⟩ w13 fun x64_1 =>
    LdI .i64 ⟨m0_, 2, none⟩ w13 fun x64_2 =>
    LdI .i64 ⟨m0_, 3, none⟩ w13 fun x64_3 =>
    LdI .i64 ⟨m0_, 4, none⟩ w13 fun x64_4 =>
    LdI .i64 ⟨m0_, 5, none⟩ w13 fun x64_5 =>
    LdI .i64 ⟨m0_, 6, none⟩ w13 fun x64_6 =>
    LdB ⟨m0_, 7, none⟩ w13 fun x64_7 =>
    LdL ⟨m0_, 8, none⟩ w13 fun x64_8_b x64_8_l x64_8_c =>
    LdS ⟨m0_, 9, none⟩ w13 fun x64_9 =>
    Sts [.int .i64 x64_0, .int .i64 x64_1, .int .i64 x64_2, .int .i64 x64_3, .int .i64 x64_4, .int .i64 x64_5, .int .i64 x64_6, .bool x64_7, .slice x64_8_b x64_8_l x64_8_c, .string x64_9] ⟨b4, 0, none⟩ 0 w13 fun w14 =>
    LdI .i64 ⟨b4, 0, none⟩ w14 fun r_0 =>
    LdI .i64 ⟨b4, 1, none⟩ w14 fun r_1 =>
    LdI .i64 ⟨b4, 2, none⟩ w14 fun r_2 =>
    LdI .i64 ⟨b4, 3, none⟩ w14 fun r_3 =>
    LdI .i64 ⟨b4, 4, none⟩ w14 fun r_4 =>
    LdI .i64 ⟨b4, 5, none⟩ w14 fun r_5 =>
    LdI .i64 ⟨b4, 6, none⟩ w14 fun r_6 =>
    LdB ⟨b4, 7, none⟩ w14 fun r_7 =>
    LdL ⟨b4, 8, none⟩ w14 fun r_8_b r_8_l r_8_c =>
    LdS ⟨b4, 9, none⟩ w14 fun r_9 =>
    R r_0 r_1 r_2 r_3 r_4 r_5 r_6 r_7 r_8_b r_8_l r_8_c r_9 w14) (
    Pn s fun a_7 =>
    (0 ≤ p ∧ p < ((3 : Nat) : Int)) ∧
    LdI .i64 (Addr.add (a_7.add 3) (p.toNat * 1)) w7.drew fun x70 =>
    Pn s fun a_8 =>
    LdI .i64 (a_8.add 2) w7.drew fun x75 =>
    Sts [.int .i64 (3 : Int)] ⟨m0_, 0, none⟩ 0 w7.drew fun w15 =>
    w15.cell? (a_8.add 2) = some (.int .i64 x75) ∧
    w15.cell? (Addr.add (a_7.add 3) (p.toNat * 1)) = some (.int .i64 x70) ∧
    Sts [.int .i64 (IntKind.i64.wrap (x70 - (1 : Int)))] ⟨m0_, 4, none⟩ 0 w15 fun w16 =>
    w16.cell? (a_8.add 2) = some (.int .i64 x75) ∧
    Sts [.int .i64 x75] ⟨m0_, 6, none⟩ 0 w16 fun w17 =>
    Pn s fun a_9 =>
    LdP a_9 w17.drew fun x83 =>
    LdI .i64 ⟨m0_, 4, none⟩ w17.drew fun x85 =>
    rlogm_Log_TermAt.Call x83 x85 w17.drew fun r86_0 r86_1 w18 =>
    Sts [.int .i64 r86_0] ⟨m0_, 5, none⟩ 0 w18 fun w19 =>
    Pn s fun a_10 =>
    (0 ≤ p ∧ p < ((3 : Nat) : Int)) ∧
    LdI .i64 (Addr.add (a_10.add 3) (p.toNat * 1)) w19 fun x95 =>
    sL1 s p b4 r34 m0_ x95 w19)) = kstep Tryz.prog 128 Tryz.f128.results.toList (Tryz.f128.body.getD .skip) (syncm_Sync_send.RV R) (kvc Tryz.prog 128 Tryz.f128.results.toList (Tryz.f128.body.getD .skip) (syncm_Sync_send.RV R) [([(0, [1, 1, 1, 1, 1, 1, 1, 1, 1, 0, 1, 0, 0]), (2, [1, 1, 1, 1, 1, 1, 1, 1, 1, 0, 1, 0, 0]), (1, [0]), (0, [1, 1, 1, 1, 1, 1, 1, 1, 1, 1])], fun σ w => dP (slotOf σ 0) fun s_ => dI .i64 (slotOf σ 1) fun p_ => dK (slotOf σ 4) fun t4_ => dI .i64 (slotOf σ 8) fun last_ => dK (slotOf σ 9) fun m0_ => dI .i64 (slotOf σ 12) fun i_ => sL1 s_ p_ t4_ last_ m0_ i_ w)] 2000) [(0, [])] [(0, .pointer s), (1, .int .i64 p)] w := by kernel_rfl
theorem syncm_Sync_send.B0_sound {R : Int → Int → Int → Int → Int → Int → Int → Bool → Option Addr → Nat → Nat → ByteArray → World → Prop}  (s : Option Addr) (p : Int) (w : World) (h : syncm_Sync_send.B0 s p w   R) :
    KW Tryz.prog 128 128 (syncm_Sync_send.RV R) ([(0, [])].map (toItem (Tryz.f128.body.getD .skip))) [(0, .pointer s), (1, .int .i64 p)] w := by
  exact block_spec Tryz.func128 Tryz.mixed (stops_cons (fun σ w h => by
      obtain ⟨s_, e0, h⟩ := dP_elim h
      obtain ⟨p_, e1, h⟩ := dI_elim h
      obtain ⟨t4_, e2, h⟩ := dK_elim h
      obtain ⟨last_, e3, h⟩ := dI_elim h
      obtain ⟨m0_, e4, h⟩ := dK_elim h
      obtain ⟨i_, e5, h⟩ := dI_elim h
      exact (syncm_Sync_send.L1_sound  s_ p_ t4_ last_ m0_ i_ w h).weaken (Sub.cons (Sub.cons (Sub.cons (Sub.cons (Sub.cons (Sub.cons (Sub.nil _) e5) e4) e3) e2) e1) e0)) stops_nil) (Eq.mp (syncm_Sync_send.B0_eq s p w   R (fun s_ p_ t4_ last_ m0_ i_ w => syncm_Sync_send.L1 s_ p_ t4_ last_ m0_ i_ w  R)) h)
theorem syncm_Sync_send.sound (s : Option Addr) (p : Int) (w : World) (R : Int → Int → Int → Int → Int → Int → Int → Bool → Option Addr → Nat → Nat → ByteArray → World → Prop) (h : syncm_Sync_send.B0 s p w R) : syncm_Sync_send.Call s p w R := by
  have hc := calls_of_block (args := #[.pointer s, .int .i64 p]) Tryz.func128 (body := (Tryz.f128.body.getD .skip)) (by kernel_rfl) (by kernel_rfl) (args_slot _) (syncm_Sync_send.B0_sound s p w h)
  exact hc.mono fun e w' he => by
    obtain ⟨v, rfl, hv⟩ := he
    exact syncm_Sync_send.RV_elim hv
def synclaw_SameEnts.L1b (a_b : Option Addr) (a_l a_c : Nat) (b_b : Option Addr) (b_l b_c : Nat) (i : Int) (w : World)  (N1 : Option Addr → Nat → Nat → Option Addr → Nat → Nat → Int → World → Prop) (R : Bool → World → Prop) : Prop :=
  Bm (decide (i < ((a_l : Nat) : Int))) (
    Pn a_b fun a =>
    (0 ≤ i ∧ i < ((a_l : Nat) : Int)) ∧
    LdI .i64 (Addr.add a (i.toNat * 2)) w.drew fun x20_0 =>
    LdS ((Addr.add a (i.toNat * 2)).add 1) w.drew fun x20_1 =>
    Pn b_b fun a_1 =>
    (0 ≤ i ∧ i < ((b_l : Nat) : Int)) ∧
    LdI .i64 (Addr.add a_1 (i.toNat * 2)) w.drew fun x24_0 =>
    LdS ((Addr.add a_1 (i.toNat * 2)).add 1) w.drew fun x24_1 =>
    synclaw_SameEntry.Call x20_0 x20_1 x24_0 x24_1 w.drew fun r25 w1 =>
    Bm (!r25) (
      R false w1) (
      N1 a_b a_l a_c b_b b_l b_c (IntKind.i64.wrap (i + (1 : Int))) w1)) (
    R true w)
theorem synclaw_SameEnts.L1b_eq (a_b : Option Addr) (a_l a_c : Nat) (b_b : Option Addr) (b_l b_c : Nat) (i : Int) (w : World)  (N1 : Option Addr → Nat → Nat → Option Addr → Nat → Nat → Int → World → Prop) (R : Bool → World → Prop)  :
    (
  Bm (decide (i < ((a_l : Nat) : Int))) (
    Pn a_b fun a =>
    (0 ≤ i ∧ i < ((a_l : Nat) : Int)) ∧
    LdI .i64 (Addr.add a (i.toNat * 2)) w.drew fun x20_0 =>
    LdS ((Addr.add a (i.toNat * 2)).add 1) w.drew fun x20_1 =>
    Pn b_b fun a_1 =>
    (0 ≤ i ∧ i < ((b_l : Nat) : Int)) ∧
    LdI .i64 (Addr.add a_1 (i.toNat * 2)) w.drew fun x24_0 =>
    LdS ((Addr.add a_1 (i.toNat * 2)).add 1) w.drew fun x24_1 =>
    synclaw_SameEntry.Call x20_0 x20_1 x24_0 x24_1 w.drew fun r25 w1 =>
    Bm (!r25) (
      R false w1) (
      N1 a_b a_l a_c b_b b_l b_c (IntKind.i64.wrap (i + (1 : Int))) w1)) (
    R true w)) = kstep Tryz.prog 27 Tryz.f129.results.toList (Tryz.f129.body.getD .skip) (synclaw_SameEnts.RV R) (kvc Tryz.prog 27 Tryz.f129.results.toList (Tryz.f129.body.getD .skip) (synclaw_SameEnts.RV R) [([(0, [1, 1, 0, 1, 0, 0]), (2, [1, 1, 0, 1, 0, 0]), (1, [0]), (0, [1, 1, 1])], fun σ w => dL (slotOf σ 0) fun a_b_ a_l_ a_c_ => dL (slotOf σ 1) fun b_b_ b_l_ b_c_ => dI .i64 (slotOf σ 5) fun i_ => N1 a_b_ a_l_ a_c_ b_b_ b_l_ b_c_ i_ w)] 2000) [(0, [1, 1, 0, 1, 0, 0]), (2, [1, 1, 0, 1, 0, 0]), (1, [0]), (0, [1, 1, 1])] [(0, .slice a_b a_l a_c), (1, .slice b_b b_l b_c), (5, .int .i64 i)] w := by kernel_rfl
theorem synclaw_SameEnts.L1b_sound {R : Bool → World → Prop} {N1 : Option Addr → Nat → Nat → Option Addr → Nat → Nat → Int → World → Prop} (hN1 : ∀ a_b a_l a_c b_b b_l b_c i w, N1 a_b a_l a_c b_b b_l b_c i w → KW Tryz.prog 129 27 (synclaw_SameEnts.RV R) ([(0, [1, 1, 0, 1, 0, 0]), (2, [1, 1, 0, 1, 0, 0]), (1, [0]), (0, [1, 1, 1])].map (toItem (Tryz.f129.body.getD .skip))) [(0, .slice a_b a_l a_c), (1, .slice b_b b_l b_c), (5, .int .i64 i)] w) (a_b : Option Addr) (a_l a_c : Nat) (b_b : Option Addr) (b_l b_c : Nat) (i : Int) (w : World) (h : synclaw_SameEnts.L1b a_b a_l a_c b_b b_l b_c i w  N1 R) :
    KW Tryz.prog 129 27 (synclaw_SameEnts.RV R) ([(0, [1, 1, 0, 1, 0, 0]), (2, [1, 1, 0, 1, 0, 0]), (1, [0]), (0, [1, 1, 1])].map (toItem (Tryz.f129.body.getD .skip))) [(0, .slice a_b a_l a_c), (1, .slice b_b b_l b_c), (5, .int .i64 i)] w := by
  exact block_spec Tryz.func129 Tryz.mixed (stops_cons (fun σ w h => by
      obtain ⟨a_b_, a_l_, a_c_, e0, h⟩ := dL_elim h
      obtain ⟨b_b_, b_l_, b_c_, e1, h⟩ := dL_elim h
      obtain ⟨i_, e2, h⟩ := dI_elim h
      exact (hN1 a_b_ a_l_ a_c_ b_b_ b_l_ b_c_ i_ w h).weaken (Sub.cons (Sub.cons (Sub.cons (Sub.nil _) e2) e1) e0)) stops_nil) (Eq.mp (synclaw_SameEnts.L1b_eq a_b a_l a_c b_b b_l b_c i w  N1 R ) h)
def synclaw_SameEnts.L1 (a_b : Option Addr) (a_l a_c : Nat) (b_b : Option Addr) (b_l b_c : Nat) (i : Int) (w : World)  (R : Bool → World → Prop) : Prop :=
  ∃ (I : Nat → Option Addr → Nat → Nat → Option Addr → Nat → Nat → Int → World → Prop) (m : Nat), I m a_b a_l a_c b_b b_l b_c i w ∧ ∀ m a_b a_l a_c b_b b_l b_c i w, I m a_b a_l a_c b_b b_l b_c i w → synclaw_SameEnts.L1b a_b a_l a_c b_b b_l b_c i w  (fun a_b' a_l' a_c' b_b' b_l' b_c' i' w' => ∃ m', m' < m ∧ I m' a_b' a_l' a_c' b_b' b_l' b_c' i' w') R
theorem synclaw_SameEnts.L1_sound {R : Bool → World → Prop}  (a_b : Option Addr) (a_l a_c : Nat) (b_b : Option Addr) (b_l b_c : Nat) (i : Int) (w : World) (h : synclaw_SameEnts.L1 a_b a_l a_c b_b b_l b_c i w  R) :
    KW Tryz.prog 129 27 (synclaw_SameEnts.RV R) ([(0, [1, 1, 0, 1, 0, 0]), (2, [1, 1, 0, 1, 0, 0]), (1, [0]), (0, [1, 1, 1])].map (toItem (Tryz.f129.body.getD .skip))) [(0, .slice a_b a_l a_c), (1, .slice b_b b_l b_c), (5, .int .i64 i)] w := by
  obtain ⟨I, m, hBase, hr⟩ := h
  refine KW.loop (fun m σ w => ∃ (a_b : Option Addr) (a_l a_c : Nat) (b_b : Option Addr) (b_l b_c : Nat) (i : Int), σ = [(0, .slice a_b a_l a_c), (1, .slice b_b b_l b_c), (5, .int .i64 i)] ∧ I m a_b a_l a_c b_b b_l b_c i w) ?_ m _ w ⟨a_b, a_l, a_c, b_b, b_l, b_c, i, rfl, hBase⟩
  rintro m ih σ w ⟨a_b, a_l, a_c, b_b, b_l, b_c, i, rfl, hI⟩
  exact synclaw_SameEnts.L1b_sound  (N1 := fun a_b' a_l' a_c' b_b' b_l' b_c' i' w' => ∃ m', m' < m ∧ I m' a_b' a_l' a_c' b_b' b_l' b_c' i' w') (fun a_b' a_l' a_c' b_b' b_l' b_c' i' w' hx => by obtain ⟨m', hlt, hI'⟩ := hx; exact ih m' hlt _ w' ⟨a_b', a_l', a_c', b_b', b_l', b_c', i', rfl, hI'⟩) a_b a_l a_c b_b b_l b_c i w (hr m a_b a_l a_c b_b b_l b_c i w hI)
def synclaw_SameEnts.B0 (a_b : Option Addr) (a_l a_c : Nat) (b_b : Option Addr) (b_l b_c : Nat) (w : World)   (R : Bool → World → Prop) : Prop :=
  Bm (((a_l : Nat) : Int) != ((b_l : Nat) : Int)) (
    R false w) (
    synclaw_SameEnts.L1 a_b a_l a_c b_b b_l b_c (0 : Int) w  R)
theorem synclaw_SameEnts.B0_eq (a_b : Option Addr) (a_l a_c : Nat) (b_b : Option Addr) (b_l b_c : Nat) (w : World)   (R : Bool → World → Prop) (sL1 : Option Addr → Nat → Nat → Option Addr → Nat → Nat → Int → World → Prop) :
    (
  Bm (((a_l : Nat) : Int) != ((b_l : Nat) : Int)) (
    R false w) (
    sL1 a_b a_l a_c b_b b_l b_c (0 : Int) w)) = kstep Tryz.prog 27 Tryz.f129.results.toList (Tryz.f129.body.getD .skip) (synclaw_SameEnts.RV R) (kvc Tryz.prog 27 Tryz.f129.results.toList (Tryz.f129.body.getD .skip) (synclaw_SameEnts.RV R) [([(0, [1, 1, 0, 1, 0, 0]), (2, [1, 1, 0, 1, 0, 0]), (1, [0]), (0, [1, 1, 1])], fun σ w => dL (slotOf σ 0) fun a_b_ a_l_ a_c_ => dL (slotOf σ 1) fun b_b_ b_l_ b_c_ => dI .i64 (slotOf σ 5) fun i_ => sL1 a_b_ a_l_ a_c_ b_b_ b_l_ b_c_ i_ w)] 2000) [(0, [])] [(0, .slice a_b a_l a_c), (1, .slice b_b b_l b_c)] w := by kernel_rfl
theorem synclaw_SameEnts.B0_sound {R : Bool → World → Prop}  (a_b : Option Addr) (a_l a_c : Nat) (b_b : Option Addr) (b_l b_c : Nat) (w : World) (h : synclaw_SameEnts.B0 a_b a_l a_c b_b b_l b_c w   R) :
    KW Tryz.prog 129 27 (synclaw_SameEnts.RV R) ([(0, [])].map (toItem (Tryz.f129.body.getD .skip))) [(0, .slice a_b a_l a_c), (1, .slice b_b b_l b_c)] w := by
  exact block_spec Tryz.func129 Tryz.mixed (stops_cons (fun σ w h => by
      obtain ⟨a_b_, a_l_, a_c_, e0, h⟩ := dL_elim h
      obtain ⟨b_b_, b_l_, b_c_, e1, h⟩ := dL_elim h
      obtain ⟨i_, e2, h⟩ := dI_elim h
      exact (synclaw_SameEnts.L1_sound  a_b_ a_l_ a_c_ b_b_ b_l_ b_c_ i_ w h).weaken (Sub.cons (Sub.cons (Sub.cons (Sub.nil _) e2) e1) e0)) stops_nil) (Eq.mp (synclaw_SameEnts.B0_eq a_b a_l a_c b_b b_l b_c w   R (fun a_b_ a_l_ a_c_ b_b_ b_l_ b_c_ i_ w => synclaw_SameEnts.L1 a_b_ a_l_ a_c_ b_b_ b_l_ b_c_ i_ w  R)) h)
theorem synclaw_SameEnts.sound (a_b : Option Addr) (a_l a_c : Nat) (b_b : Option Addr) (b_l b_c : Nat) (w : World) (R : Bool → World → Prop) (h : synclaw_SameEnts.B0 a_b a_l a_c b_b b_l b_c w R) : synclaw_SameEnts.Call a_b a_l a_c b_b b_l b_c w R := by
  have hc := calls_of_block (args := #[.slice a_b a_l a_c, .slice b_b b_l b_c]) Tryz.func129 (body := (Tryz.f129.body.getD .skip)) (by kernel_rfl) (by kernel_rfl) (args_slot _) (synclaw_SameEnts.B0_sound a_b a_l a_c b_b b_l b_c w h)
  exact hc.mono fun e w' he => by
    obtain ⟨v, rfl, hv⟩ := he
    exact synclaw_SameEnts.RV_elim hv
def sync_Sync_Propose.B0 (s : Option Addr) (data : ByteArray) (w : World)   (R : Int → Int → World → Prop) : Prop :=
  Pn s fun a =>
  LdP (a.add 1) w fun x12 =>
  elect_Elect_Role.Call x12 w fun r13 w1 =>
  Bm (r13 != (2 : Int)) (
    R (0 : Int) (8 : Int) w1) (
    Bm (decide (((data.size : Nat) : Int) > (24 : Int))) (
      R (0 : Int) (5 : Int) w1) (
      Pn s fun a_1 =>
      LdP (a_1.add 1) w1 fun x22 =>
      elect_Elect_Term.Call x22 w1 fun r23 w2 =>
      sync_Sync_grow.Call s r23 data w2 fun r28 w3 =>
      Bm (r28 != (0 : Int)) (
        R (0 : Int) (6 : Int) w3) (
        Pn s fun a_2 =>
        LdI .i64 (a_2.add 9) w3 fun x34 =>
        R x34 (0 : Int) w3)))
theorem sync_Sync_Propose.B0_eq (s : Option Addr) (data : ByteArray) (w : World)   (R : Int → Int → World → Prop)  :
    (
  Pn s fun a =>
  LdP (a.add 1) w fun x12 =>
  elect_Elect_Role.Call x12 w fun r13 w1 =>
  Bm (r13 != (2 : Int)) (
    R (0 : Int) (8 : Int) w1) (
    Bm (decide (((data.size : Nat) : Int) > (24 : Int))) (
      R (0 : Int) (5 : Int) w1) (
      Pn s fun a_1 =>
      LdP (a_1.add 1) w1 fun x22 =>
      elect_Elect_Term.Call x22 w1 fun r23 w2 =>
      sync_Sync_grow.Call s r23 data w2 fun r28 w3 =>
      Bm (r28 != (0 : Int)) (
        R (0 : Int) (6 : Int) w3) (
        Pn s fun a_2 =>
        LdI .i64 (a_2.add 9) w3 fun x34 =>
        R x34 (0 : Int) w3)))) = kstep Tryz.prog 35 Tryz.f130.results.toList (Tryz.f130.body.getD .skip) (sync_Sync_Propose.RV R) (kvc Tryz.prog 35 Tryz.f130.results.toList (Tryz.f130.body.getD .skip) (sync_Sync_Propose.RV R) [] 2000) [(0, [])] [(0, .pointer s), (1, .string data)] w := by kernel_rfl
theorem sync_Sync_Propose.B0_sound {R : Int → Int → World → Prop}  (s : Option Addr) (data : ByteArray) (w : World) (h : sync_Sync_Propose.B0 s data w   R) :
    KW Tryz.prog 130 35 (sync_Sync_Propose.RV R) ([(0, [])].map (toItem (Tryz.f130.body.getD .skip))) [(0, .pointer s), (1, .string data)] w := by
  exact block_spec Tryz.func130 Tryz.mixed stops_nil (Eq.mp (sync_Sync_Propose.B0_eq s data w   R ) h)
theorem sync_Sync_Propose.sound (s : Option Addr) (data : ByteArray) (w : World) (R : Int → Int → World → Prop) (h : sync_Sync_Propose.B0 s data w R) : sync_Sync_Propose.Call s data w R := by
  have hc := calls_of_block (args := #[.pointer s, .string data]) Tryz.func130 (body := (Tryz.f130.body.getD .skip)) (by kernel_rfl) (by kernel_rfl) (args_slot _) (sync_Sync_Propose.B0_sound s data w h)
  exact hc.mono fun e w' he => by
    obtain ⟨v, rfl, hv⟩ := he
    exact sync_Sync_Propose.RV_elim hv
def syncm_Sync_Propose.B0 (s : Option Addr) (data : ByteArray) (w : World)   (R : Int → Int → World → Prop) : Prop :=
  Pn s fun a =>
  LdP (a.add 1) w fun x13 =>
  electm_Elect_Role.Call x13 w fun r14 w1 =>
  Bm (r14 != (2 : Int)) (
    R (0 : Int) (8 : Int) w1) (
    Bm (decide (((data.size : Nat) : Int) > (24 : Int))) (
      R (0 : Int) (5 : Int) w1) (
      Pn s fun a_1 =>
      LdP (a_1.add 1) w1 fun x23 =>
      electm_Elect_Term.Call x23 w1 fun r24 w2 =>
      Pn s fun a_2 =>
      LdP a_2 w2 fun x28 =>
      rlogm_Log_Append.Call x28 r24 data w2 fun r32 w3 =>
      Bm (r32 != (0 : Int)) (
        R (0 : Int) (6 : Int) w3) (
        Pn s fun a_3 =>
        LdP a_3 w3 fun x38 =>
        rlogm_Log_Last.Call x38 w3 fun r39 w4 =>
        R r39 (0 : Int) w4)))
theorem syncm_Sync_Propose.B0_eq (s : Option Addr) (data : ByteArray) (w : World)   (R : Int → Int → World → Prop)  :
    (
  Pn s fun a =>
  LdP (a.add 1) w fun x13 =>
  electm_Elect_Role.Call x13 w fun r14 w1 =>
  Bm (r14 != (2 : Int)) (
    R (0 : Int) (8 : Int) w1) (
    Bm (decide (((data.size : Nat) : Int) > (24 : Int))) (
      R (0 : Int) (5 : Int) w1) (
      Pn s fun a_1 =>
      LdP (a_1.add 1) w1 fun x23 =>
      electm_Elect_Term.Call x23 w1 fun r24 w2 =>
      Pn s fun a_2 =>
      LdP a_2 w2 fun x28 =>
      rlogm_Log_Append.Call x28 r24 data w2 fun r32 w3 =>
      Bm (r32 != (0 : Int)) (
        R (0 : Int) (6 : Int) w3) (
        Pn s fun a_3 =>
        LdP a_3 w3 fun x38 =>
        rlogm_Log_Last.Call x38 w3 fun r39 w4 =>
        R r39 (0 : Int) w4)))) = kstep Tryz.prog 41 Tryz.f131.results.toList (Tryz.f131.body.getD .skip) (syncm_Sync_Propose.RV R) (kvc Tryz.prog 41 Tryz.f131.results.toList (Tryz.f131.body.getD .skip) (syncm_Sync_Propose.RV R) [] 2000) [(0, [])] [(0, .pointer s), (1, .string data)] w := by kernel_rfl
theorem syncm_Sync_Propose.B0_sound {R : Int → Int → World → Prop}  (s : Option Addr) (data : ByteArray) (w : World) (h : syncm_Sync_Propose.B0 s data w   R) :
    KW Tryz.prog 131 41 (syncm_Sync_Propose.RV R) ([(0, [])].map (toItem (Tryz.f131.body.getD .skip))) [(0, .pointer s), (1, .string data)] w := by
  exact block_spec Tryz.func131 Tryz.mixed stops_nil (Eq.mp (syncm_Sync_Propose.B0_eq s data w   R ) h)
theorem syncm_Sync_Propose.sound (s : Option Addr) (data : ByteArray) (w : World) (R : Int → Int → World → Prop) (h : syncm_Sync_Propose.B0 s data w R) : syncm_Sync_Propose.Call s data w R := by
  have hc := calls_of_block (args := #[.pointer s, .string data]) Tryz.func131 (body := (Tryz.f131.body.getD .skip)) (by kernel_rfl) (by kernel_rfl) (args_slot _) (syncm_Sync_Propose.B0_sound s data w h)
  exact hc.mono fun e w' he => by
    obtain ⟨v, rfl, hv⟩ := he
    exact syncm_Sync_Propose.RV_elim hv
def sync_Sync_Compact.B0 (s : Option Addr) (upTo : Int) (snap : ByteArray) (w : World)   (R : Int → World → Prop) : Prop :=
  Pn s fun a =>
  LdI .i64 (a.add 2) w fun x11 =>
  Bm (decide (upTo > x11)) (
    R (1 : Int) w) (
    Pn s fun a_1 =>
    LdP a_1 w fun x16 =>
    rlog_Log_Compact.Call x16 upTo snap w fun r19 w1 =>
    R r19 w1)
theorem sync_Sync_Compact.B0_eq (s : Option Addr) (upTo : Int) (snap : ByteArray) (w : World)   (R : Int → World → Prop)  :
    (
  Pn s fun a =>
  LdI .i64 (a.add 2) w fun x11 =>
  Bm (decide (upTo > x11)) (
    R (1 : Int) w) (
    Pn s fun a_1 =>
    LdP a_1 w fun x16 =>
    rlog_Log_Compact.Call x16 upTo snap w fun r19 w1 =>
    R r19 w1)) = kstep Tryz.prog 20 Tryz.f132.results.toList (Tryz.f132.body.getD .skip) (sync_Sync_Compact.RV R) (kvc Tryz.prog 20 Tryz.f132.results.toList (Tryz.f132.body.getD .skip) (sync_Sync_Compact.RV R) [] 2000) [(0, [])] [(0, .pointer s), (1, .int .i64 upTo), (2, .string snap)] w := by kernel_rfl
theorem sync_Sync_Compact.B0_sound {R : Int → World → Prop}  (s : Option Addr) (upTo : Int) (snap : ByteArray) (w : World) (h : sync_Sync_Compact.B0 s upTo snap w   R) :
    KW Tryz.prog 132 20 (sync_Sync_Compact.RV R) ([(0, [])].map (toItem (Tryz.f132.body.getD .skip))) [(0, .pointer s), (1, .int .i64 upTo), (2, .string snap)] w := by
  exact block_spec Tryz.func132 Tryz.mixed stops_nil (Eq.mp (sync_Sync_Compact.B0_eq s upTo snap w   R ) h)
theorem sync_Sync_Compact.sound (s : Option Addr) (upTo : Int) (snap : ByteArray) (w : World) (R : Int → World → Prop) (h : sync_Sync_Compact.B0 s upTo snap w R) : sync_Sync_Compact.Call s upTo snap w R := by
  have hc := calls_of_block (args := #[.pointer s, .int .i64 upTo, .string snap]) Tryz.func132 (body := (Tryz.f132.body.getD .skip)) (by kernel_rfl) (by kernel_rfl) (args_slot _) (sync_Sync_Compact.B0_sound s upTo snap w h)
  exact hc.mono fun e w' he => by
    obtain ⟨v, rfl, hv⟩ := he
    exact sync_Sync_Compact.RV_elim hv
def syncm_Sync_Compact.B0 (s : Option Addr) (upTo : Int) (snap : ByteArray) (w : World)   (R : Int → World → Prop) : Prop :=
  Pn s fun a =>
  LdI .i64 (a.add 2) w fun x11 =>
  Bm (decide (upTo > x11)) (
    R (1 : Int) w) (
    Pn s fun a_1 =>
    LdP a_1 w fun x16 =>
    rlogm_Log_Compact.Call x16 upTo snap w fun r19 w1 =>
    R r19 w1)
theorem syncm_Sync_Compact.B0_eq (s : Option Addr) (upTo : Int) (snap : ByteArray) (w : World)   (R : Int → World → Prop)  :
    (
  Pn s fun a =>
  LdI .i64 (a.add 2) w fun x11 =>
  Bm (decide (upTo > x11)) (
    R (1 : Int) w) (
    Pn s fun a_1 =>
    LdP a_1 w fun x16 =>
    rlogm_Log_Compact.Call x16 upTo snap w fun r19 w1 =>
    R r19 w1)) = kstep Tryz.prog 20 Tryz.f133.results.toList (Tryz.f133.body.getD .skip) (syncm_Sync_Compact.RV R) (kvc Tryz.prog 20 Tryz.f133.results.toList (Tryz.f133.body.getD .skip) (syncm_Sync_Compact.RV R) [] 2000) [(0, [])] [(0, .pointer s), (1, .int .i64 upTo), (2, .string snap)] w := by kernel_rfl
theorem syncm_Sync_Compact.B0_sound {R : Int → World → Prop}  (s : Option Addr) (upTo : Int) (snap : ByteArray) (w : World) (h : syncm_Sync_Compact.B0 s upTo snap w   R) :
    KW Tryz.prog 133 20 (syncm_Sync_Compact.RV R) ([(0, [])].map (toItem (Tryz.f133.body.getD .skip))) [(0, .pointer s), (1, .int .i64 upTo), (2, .string snap)] w := by
  exact block_spec Tryz.func133 Tryz.mixed stops_nil (Eq.mp (syncm_Sync_Compact.B0_eq s upTo snap w   R ) h)
theorem syncm_Sync_Compact.sound (s : Option Addr) (upTo : Int) (snap : ByteArray) (w : World) (R : Int → World → Prop) (h : syncm_Sync_Compact.B0 s upTo snap w R) : syncm_Sync_Compact.Call s upTo snap w R := by
  have hc := calls_of_block (args := #[.pointer s, .int .i64 upTo, .string snap]) Tryz.func133 (body := (Tryz.f133.body.getD .skip)) (by kernel_rfl) (by kernel_rfl) (args_slot _) (syncm_Sync_Compact.B0_sound s upTo snap w h)
  exact hc.mono fun e w' he => by
    obtain ⟨v, rfl, hv⟩ := he
    exact syncm_Sync_Compact.RV_elim hv
def diskm_Disk_Read.B1 (d : Option Addr) (b : Int) (t11 : Bool) (w : World)   (R : ByteArray → Int → World → Prop) : Prop :=
  Bm t11 (
    R (ByteArray.mk #[]) (1 : Int) w) (
    Pn d fun a =>
    LdL a w fun x15_b x15_l x15_c =>
    Pn x15_b fun a_1 =>
    (0 ≤ b ∧ b < ((x15_l : Nat) : Int)) ∧
    LdS (Addr.add a_1 (b.toNat * 1)) w fun x18 =>
    R x18 (0 : Int) w)
theorem diskm_Disk_Read.B1_eq (d : Option Addr) (b : Int) (t11 : Bool) (w : World)   (R : ByteArray → Int → World → Prop)  :
    (
  Bm t11 (
    R (ByteArray.mk #[]) (1 : Int) w) (
    Pn d fun a =>
    LdL a w fun x15_b x15_l x15_c =>
    Pn x15_b fun a_1 =>
    (0 ≤ b ∧ b < ((x15_l : Nat) : Int)) ∧
    LdS (Addr.add a_1 (b.toNat * 1)) w fun x18 =>
    R x18 (0 : Int) w)) = kstep Tryz.prog 19 Tryz.f134.results.toList (Tryz.f134.body.getD .skip) (diskm_Disk_Read.RV R) (kvc Tryz.prog 19 Tryz.f134.results.toList (Tryz.f134.body.getD .skip) (diskm_Disk_Read.RV R) [] 2000) [(0, [1, 0, 1]), (0, [1, 1])] [(0, .pointer d), (1, .int .i64 b), (11, .bool t11)] w := by kernel_rfl
theorem diskm_Disk_Read.B1_sound {R : ByteArray → Int → World → Prop}  (d : Option Addr) (b : Int) (t11 : Bool) (w : World) (h : diskm_Disk_Read.B1 d b t11 w   R) :
    KW Tryz.prog 134 19 (diskm_Disk_Read.RV R) ([(0, [1, 0, 1]), (0, [1, 1])].map (toItem (Tryz.f134.body.getD .skip))) [(0, .pointer d), (1, .int .i64 b), (11, .bool t11)] w := by
  exact block_spec Tryz.func134 Tryz.mixed stops_nil (Eq.mp (diskm_Disk_Read.B1_eq d b t11 w   R ) h)
def diskm_Disk_Read.B0 (d : Option Addr) (b : Int) (w : World)   (R : ByteArray → Int → World → Prop) : Prop :=
  Bm (decide (b < (0 : Int))) (
    diskm_Disk_Read.B1 d b true w  R) (
    diskm_Disk_Read.B1 d b (decide (b ≥ (14 : Int))) w  R)
theorem diskm_Disk_Read.B0_eq (d : Option Addr) (b : Int) (w : World)   (R : ByteArray → Int → World → Prop) (sB1 : Option Addr → Int → Bool → World → Prop) :
    (
  Bm (decide (b < (0 : Int))) (
    sB1 d b true w) (
    sB1 d b (decide (b ≥ (14 : Int))) w)) = kstep Tryz.prog 19 Tryz.f134.results.toList (Tryz.f134.body.getD .skip) (diskm_Disk_Read.RV R) (kvc Tryz.prog 19 Tryz.f134.results.toList (Tryz.f134.body.getD .skip) (diskm_Disk_Read.RV R) [([(0, [1, 0, 1]), (0, [1, 1])], fun σ w => dP (slotOf σ 0) fun d_ => dI .i64 (slotOf σ 1) fun b_ => dB (slotOf σ 11) fun t11_ => sB1 d_ b_ t11_ w)] 2000) [(0, [])] [(0, .pointer d), (1, .int .i64 b)] w := by kernel_rfl
theorem diskm_Disk_Read.B0_sound {R : ByteArray → Int → World → Prop}  (d : Option Addr) (b : Int) (w : World) (h : diskm_Disk_Read.B0 d b w   R) :
    KW Tryz.prog 134 19 (diskm_Disk_Read.RV R) ([(0, [])].map (toItem (Tryz.f134.body.getD .skip))) [(0, .pointer d), (1, .int .i64 b)] w := by
  exact block_spec Tryz.func134 Tryz.mixed (stops_cons (fun σ w h => by
      obtain ⟨d_, e0, h⟩ := dP_elim h
      obtain ⟨b_, e1, h⟩ := dI_elim h
      obtain ⟨t11_, e2, h⟩ := dB_elim h
      exact (diskm_Disk_Read.B1_sound  d_ b_ t11_ w h).weaken (Sub.cons (Sub.cons (Sub.cons (Sub.nil _) e2) e1) e0)) stops_nil) (Eq.mp (diskm_Disk_Read.B0_eq d b w   R (fun d_ b_ t11_ w => diskm_Disk_Read.B1 d_ b_ t11_ w  R)) h)
theorem diskm_Disk_Read.sound (d : Option Addr) (b : Int) (w : World) (R : ByteArray → Int → World → Prop) (h : diskm_Disk_Read.B0 d b w R) : diskm_Disk_Read.Call d b w R := by
  have hc := calls_of_block (args := #[.pointer d, .int .i64 b]) Tryz.func134 (body := (Tryz.f134.body.getD .skip)) (by kernel_rfl) (by kernel_rfl) (args_slot _) (diskm_Disk_Read.B0_sound d b w h)
  exact hc.mono fun e w' he => by
    obtain ⟨v, rfl, hv⟩ := he
    exact diskm_Disk_Read.RV_elim hv
def store_whole.B0 (b : ByteArray) (w : World)   (R : Bool → World → Prop) : Prop :=
  (0 ≤ (0 : Int) ∧ (0 : Int) < ((b.size : Nat) : Int)) ∧
  (0 ≤ (63 : Int) ∧ (63 : Int) < ((b.size : Nat) : Int)) ∧
  Bm ((byteAt b (0 : Int)) == (byteAt b (63 : Int))) (
    (0 ≤ (0 : Int) ∧ (0 : Int) < ((b.size : Nat) : Int)) ∧
    R ((byteAt b (0 : Int)) != (0 : Int)) w.drew) (
    R false w.drew)
theorem store_whole.B0_eq (b : ByteArray) (w : World)   (R : Bool → World → Prop)  :
    (
  (0 ≤ (0 : Int) ∧ (0 : Int) < ((b.size : Nat) : Int)) ∧
  (0 ≤ (63 : Int) ∧ (63 : Int) < ((b.size : Nat) : Int)) ∧
  Bm ((byteAt b (0 : Int)) == (byteAt b (63 : Int))) (
    (0 ≤ (0 : Int) ∧ (0 : Int) < ((b.size : Nat) : Int)) ∧
    R ((byteAt b (0 : Int)) != (0 : Int)) w.drew) (
    R false w.drew)) = kstep Tryz.prog 13 Tryz.f135.results.toList (Tryz.f135.body.getD .skip) (store_whole.RV R) (kvc Tryz.prog 13 Tryz.f135.results.toList (Tryz.f135.body.getD .skip) (store_whole.RV R) [] 2000) [(0, [])] [(0, .string b)] w := by kernel_rfl
theorem store_whole.B0_sound {R : Bool → World → Prop}  (b : ByteArray) (w : World) (h : store_whole.B0 b w   R) :
    KW Tryz.prog 135 13 (store_whole.RV R) ([(0, [])].map (toItem (Tryz.f135.body.getD .skip))) [(0, .string b)] w := by
  exact block_spec Tryz.func135 Tryz.mixed stops_nil (Eq.mp (store_whole.B0_eq b w   R ) h)
theorem store_whole.sound (b : ByteArray) (w : World) (R : Bool → World → Prop) (h : store_whole.B0 b w R) : store_whole.Call b w R := by
  have hc := calls_of_block (args := #[.string b]) Tryz.func135 (body := (Tryz.f135.body.getD .skip)) (by kernel_rfl) (by kernel_rfl) (args_slot _) (store_whole.B0_sound b w h)
  exact hc.mono fun e w' he => by
    obtain ⟨v, rfl, hv⟩ := he
    exact store_whole.RV_elim hv
def store_get8.L1b (b : ByteArray) (at0 v i : Int) (w : World)  (N1 : ByteArray → Int → Int → Int → World → Prop) (R : Int → World → Prop) : Prop :=
  Bm (decide (i < (8 : Int))) (
    0 ≤ (8 : Int) ∧
    (0 ≤ (IntKind.i64.wrap (at0 + i)) ∧ (IntKind.i64.wrap (at0 + i)) < ((b.size : Nat) : Int)) ∧
    N1 b at0 (IntKind.i64.wrap (BitVec.ofInt IntKind.i64.bits (IntKind.i64.wrap (v * 2 ^ (min (8 : Int).toNat IntKind.i64.bits))) ||| BitVec.ofInt IntKind.i64.bits (IntKind.i64.wrap (byteAt b (IntKind.i64.wrap (at0 + i))))).toNat) (IntKind.i64.wrap (i + (1 : Int))) w) (
    R v w)
theorem store_get8.L1b_eq (b : ByteArray) (at0 v i : Int) (w : World)  (N1 : ByteArray → Int → Int → Int → World → Prop) (R : Int → World → Prop)  :
    (
  Bm (decide (i < (8 : Int))) (
    0 ≤ (8 : Int) ∧
    (0 ≤ (IntKind.i64.wrap (at0 + i)) ∧ (IntKind.i64.wrap (at0 + i)) < ((b.size : Nat) : Int)) ∧
    N1 b at0 (IntKind.i64.wrap (BitVec.ofInt IntKind.i64.bits (IntKind.i64.wrap (v * 2 ^ (min (8 : Int).toNat IntKind.i64.bits))) ||| BitVec.ofInt IntKind.i64.bits (IntKind.i64.wrap (byteAt b (IntKind.i64.wrap (at0 + i))))).toNat) (IntKind.i64.wrap (i + (1 : Int))) w) (
    R v w)) = kstep Tryz.prog 21 Tryz.f136.results.toList (Tryz.f136.body.getD .skip) (store_get8.RV R) (kvc Tryz.prog 21 Tryz.f136.results.toList (Tryz.f136.body.getD .skip) (store_get8.RV R) [([(0, [1, 1, 0, 1, 0, 0]), (2, [1, 1, 0, 1, 0, 0]), (1, [0]), (0, [1, 1, 1])], fun σ w => dS (slotOf σ 0) fun b_ => dI .i64 (slotOf σ 1) fun at0_ => dI .i64 (slotOf σ 5) fun v_ => dI .i64 (slotOf σ 6) fun i_ => N1 b_ at0_ v_ i_ w)] 2000) [(0, [1, 1, 0, 1, 0, 0]), (2, [1, 1, 0, 1, 0, 0]), (1, [0]), (0, [1, 1, 1])] [(0, .string b), (1, .int .i64 at0), (5, .int .i64 v), (6, .int .i64 i)] w := by kernel_rfl
theorem store_get8.L1b_sound {R : Int → World → Prop} {N1 : ByteArray → Int → Int → Int → World → Prop} (hN1 : ∀ b at0 v i w, N1 b at0 v i w → KW Tryz.prog 136 21 (store_get8.RV R) ([(0, [1, 1, 0, 1, 0, 0]), (2, [1, 1, 0, 1, 0, 0]), (1, [0]), (0, [1, 1, 1])].map (toItem (Tryz.f136.body.getD .skip))) [(0, .string b), (1, .int .i64 at0), (5, .int .i64 v), (6, .int .i64 i)] w) (b : ByteArray) (at0 v i : Int) (w : World) (h : store_get8.L1b b at0 v i w  N1 R) :
    KW Tryz.prog 136 21 (store_get8.RV R) ([(0, [1, 1, 0, 1, 0, 0]), (2, [1, 1, 0, 1, 0, 0]), (1, [0]), (0, [1, 1, 1])].map (toItem (Tryz.f136.body.getD .skip))) [(0, .string b), (1, .int .i64 at0), (5, .int .i64 v), (6, .int .i64 i)] w := by
  exact block_spec Tryz.func136 Tryz.mixed (stops_cons (fun σ w h => by
      obtain ⟨b_, e0, h⟩ := dS_elim h
      obtain ⟨at0_, e1, h⟩ := dI_elim h
      obtain ⟨v_, e2, h⟩ := dI_elim h
      obtain ⟨i_, e3, h⟩ := dI_elim h
      exact (hN1 b_ at0_ v_ i_ w h).weaken (Sub.cons (Sub.cons (Sub.cons (Sub.cons (Sub.nil _) e3) e2) e1) e0)) stops_nil) (Eq.mp (store_get8.L1b_eq b at0 v i w  N1 R ) h)
def store_get8.L1 (b : ByteArray) (at0 v i : Int) (w : World)  (R : Int → World → Prop) : Prop :=
  ∃ (I : Nat → ByteArray → Int → Int → Int → World → Prop) (m : Nat), I m b at0 v i w ∧ ∀ m b at0 v i w, I m b at0 v i w → store_get8.L1b b at0 v i w  (fun b' at0' v' i' w' => ∃ m', m' < m ∧ I m' b' at0' v' i' w') R
theorem store_get8.L1_sound {R : Int → World → Prop}  (b : ByteArray) (at0 v i : Int) (w : World) (h : store_get8.L1 b at0 v i w  R) :
    KW Tryz.prog 136 21 (store_get8.RV R) ([(0, [1, 1, 0, 1, 0, 0]), (2, [1, 1, 0, 1, 0, 0]), (1, [0]), (0, [1, 1, 1])].map (toItem (Tryz.f136.body.getD .skip))) [(0, .string b), (1, .int .i64 at0), (5, .int .i64 v), (6, .int .i64 i)] w := by
  obtain ⟨I, m, hBase, hr⟩ := h
  refine KW.loop (fun m σ w => ∃ (b : ByteArray) (at0 v i : Int), σ = [(0, .string b), (1, .int .i64 at0), (5, .int .i64 v), (6, .int .i64 i)] ∧ I m b at0 v i w) ?_ m _ w ⟨b, at0, v, i, rfl, hBase⟩
  rintro m ih σ w ⟨b, at0, v, i, rfl, hI⟩
  exact store_get8.L1b_sound  (N1 := fun b' at0' v' i' w' => ∃ m', m' < m ∧ I m' b' at0' v' i' w') (fun b' at0' v' i' w' hx => by obtain ⟨m', hlt, hI'⟩ := hx; exact ih m' hlt _ w' ⟨b', at0', v', i', rfl, hI'⟩) b at0 v i w (hr m b at0 v i w hI)
def store_get8.B0 (b : ByteArray) (at0 : Int) (w : World)   (R : Int → World → Prop) : Prop :=
  store_get8.L1 b at0 (0 : Int) (0 : Int) w  R
theorem store_get8.B0_eq (b : ByteArray) (at0 : Int) (w : World)   (R : Int → World → Prop) (sL1 : ByteArray → Int → Int → Int → World → Prop) :
    (
  sL1 b at0 (0 : Int) (0 : Int) w) = kstep Tryz.prog 21 Tryz.f136.results.toList (Tryz.f136.body.getD .skip) (store_get8.RV R) (kvc Tryz.prog 21 Tryz.f136.results.toList (Tryz.f136.body.getD .skip) (store_get8.RV R) [([(0, [1, 1, 0, 1, 0, 0]), (2, [1, 1, 0, 1, 0, 0]), (1, [0]), (0, [1, 1, 1])], fun σ w => dS (slotOf σ 0) fun b_ => dI .i64 (slotOf σ 1) fun at0_ => dI .i64 (slotOf σ 5) fun v_ => dI .i64 (slotOf σ 6) fun i_ => sL1 b_ at0_ v_ i_ w)] 2000) [(0, [])] [(0, .string b), (1, .int .i64 at0)] w := by kernel_rfl
theorem store_get8.B0_sound {R : Int → World → Prop}  (b : ByteArray) (at0 : Int) (w : World) (h : store_get8.B0 b at0 w   R) :
    KW Tryz.prog 136 21 (store_get8.RV R) ([(0, [])].map (toItem (Tryz.f136.body.getD .skip))) [(0, .string b), (1, .int .i64 at0)] w := by
  exact block_spec Tryz.func136 Tryz.mixed (stops_cons (fun σ w h => by
      obtain ⟨b_, e0, h⟩ := dS_elim h
      obtain ⟨at0_, e1, h⟩ := dI_elim h
      obtain ⟨v_, e2, h⟩ := dI_elim h
      obtain ⟨i_, e3, h⟩ := dI_elim h
      exact (store_get8.L1_sound  b_ at0_ v_ i_ w h).weaken (Sub.cons (Sub.cons (Sub.cons (Sub.cons (Sub.nil _) e3) e2) e1) e0)) stops_nil) (Eq.mp (store_get8.B0_eq b at0 w   R (fun b_ at0_ v_ i_ w => store_get8.L1 b_ at0_ v_ i_ w  R)) h)
theorem store_get8.sound (b : ByteArray) (at0 : Int) (w : World) (R : Int → World → Prop) (h : store_get8.B0 b at0 w R) : store_get8.Call b at0 w R := by
  have hc := calls_of_block (args := #[.string b, .int .i64 at0]) Tryz.func136 (body := (Tryz.f136.body.getD .skip)) (by kernel_rfl) (by kernel_rfl) (args_slot _) (store_get8.B0_sound b at0 w h)
  exact hc.mono fun e w' he => by
    obtain ⟨v, rfl, hv⟩ := he
    exact store_get8.RV_elim hv
def rlog_slotOf.B0 (i : Int) (w : World)   (R : Int → World → Prop) : Prop :=
  (6 : Int) ≠ 0 ∧
  R (i.tmod (6 : Int)) w
theorem rlog_slotOf.B0_eq (i : Int) (w : World)   (R : Int → World → Prop)  :
    (
  (6 : Int) ≠ 0 ∧
  R (i.tmod (6 : Int)) w) = kstep Tryz.prog 5 Tryz.f137.results.toList (Tryz.f137.body.getD .skip) (rlog_slotOf.RV R) (kvc Tryz.prog 5 Tryz.f137.results.toList (Tryz.f137.body.getD .skip) (rlog_slotOf.RV R) [] 2000) [(0, [])] [(0, .int .i64 i)] w := by kernel_rfl
theorem rlog_slotOf.B0_sound {R : Int → World → Prop}  (i : Int) (w : World) (h : rlog_slotOf.B0 i w   R) :
    KW Tryz.prog 137 5 (rlog_slotOf.RV R) ([(0, [])].map (toItem (Tryz.f137.body.getD .skip))) [(0, .int .i64 i)] w := by
  exact block_spec Tryz.func137 Tryz.mixed stops_nil (Eq.mp (rlog_slotOf.B0_eq i w   R ) h)
theorem rlog_slotOf.sound (i : Int) (w : World) (R : Int → World → Prop) (h : rlog_slotOf.B0 i w R) : rlog_slotOf.Call i w R := by
  have hc := calls_of_block (args := #[.int .i64 i]) Tryz.func137 (body := (Tryz.f137.body.getD .skip)) (by kernel_rfl) (by kernel_rfl) (args_slot _) (rlog_slotOf.B0_sound i w h)
  exact hc.mono fun e w' he => by
    obtain ⟨v, rfl, hv⟩ := he
    exact rlog_slotOf.RV_elim hv
def store_Store_Rec.B1 (t : Option Addr) (slot : Int) (t4 : Nat) (t11 : Bool) (w : World)   (R : Int → Int → ByteArray → Int → World → Prop) : Prop :=
  Bm t11 (
    Sts [.int .i64 (0 : Int), .int .i64 (0 : Int), .string (ByteArray.mk #[])] ⟨t4, 0, none⟩ 0 w fun w1 =>
    LdI .i64 ⟨t4, 0, none⟩ w1 fun r_0 =>
    LdI .i64 ⟨t4, 1, none⟩ w1 fun r_1 =>
    LdS ⟨t4, 2, none⟩ w1 fun r_2 =>
    R r_0 r_1 r_2 (1 : Int) w1) (
    Pn t fun a =>
    (0 ≤ slot ∧ slot < ((6 : Nat) : Int)) ∧
    LdB (Addr.add (a.add 28) (slot.toNat * 1)) w fun x18 =>
    Bm (!x18) (
      Sts [.int .i64 (0 : Int), .int .i64 (0 : Int), .string (ByteArray.mk #[])] ⟨t4, 0, none⟩ 0 w fun w2 =>
      LdI .i64 ⟨t4, 0, none⟩ w2 fun r_0_1 =>
      LdI .i64 ⟨t4, 1, none⟩ w2 fun r_1_1 =>
      LdS ⟨t4, 2, none⟩ w2 fun r_2_1 =>
      R r_0_1 r_1_1 r_2_1 (2 : Int) w2) (
      Pn t fun a_1 =>
      (0 ≤ slot ∧ slot < ((6 : Nat) : Int)) ∧
      LdI .i64 (Addr.add (a_1.add 34) (slot.toNat * 3)) w fun x26_0 =>
      LdI .i64 ((Addr.add (a_1.add 34) (slot.toNat * 3)).add 1) w fun x26_1 =>
      LdS ((Addr.add (a_1.add 34) (slot.toNat * 3)).add 2) w fun x26_2 =>
      Sts [.int .i64 x26_0, .int .i64 x26_1, .string x26_2] ⟨t4, 0, none⟩ 0 w fun w3 =>
      LdI .i64 ⟨t4, 0, none⟩ w3 fun r_0_2 =>
      LdI .i64 ⟨t4, 1, none⟩ w3 fun r_1_2 =>
      LdS ⟨t4, 2, none⟩ w3 fun r_2_2 =>
      R r_0_2 r_1_2 r_2_2 (0 : Int) w3))
theorem store_Store_Rec.B1_eq (t : Option Addr) (slot : Int) (t4 : Nat) (t11 : Bool) (w : World)   (R : Int → Int → ByteArray → Int → World → Prop)  :
    (
  Bm t11 (
    Sts [.int .i64 (0 : Int), .int .i64 (0 : Int), .string (ByteArray.mk #[])] ⟨t4, 0, none⟩ 0 w fun w1 =>
    LdI .i64 ⟨t4, 0, none⟩ w1 fun r_0 =>
    LdI .i64 ⟨t4, 1, none⟩ w1 fun r_1 =>
    LdS ⟨t4, 2, none⟩ w1 fun r_2 =>
    R r_0 r_1 r_2 (1 : Int) w1) (
    Pn t fun a =>
    (0 ≤ slot ∧ slot < ((6 : Nat) : Int)) ∧
    LdB (Addr.add (a.add 28) (slot.toNat * 1)) w fun x18 =>
    Bm (!x18) (
      Sts [.int .i64 (0 : Int), .int .i64 (0 : Int), .string (ByteArray.mk #[])] ⟨t4, 0, none⟩ 0 w fun w2 =>
      LdI .i64 ⟨t4, 0, none⟩ w2 fun r_0_1 =>
      LdI .i64 ⟨t4, 1, none⟩ w2 fun r_1_1 =>
      LdS ⟨t4, 2, none⟩ w2 fun r_2_1 =>
      R r_0_1 r_1_1 r_2_1 (2 : Int) w2) (
      Pn t fun a_1 =>
      (0 ≤ slot ∧ slot < ((6 : Nat) : Int)) ∧
      LdI .i64 (Addr.add (a_1.add 34) (slot.toNat * 3)) w fun x26_0 =>
      LdI .i64 ((Addr.add (a_1.add 34) (slot.toNat * 3)).add 1) w fun x26_1 =>
      LdS ((Addr.add (a_1.add 34) (slot.toNat * 3)).add 2) w fun x26_2 =>
      Sts [.int .i64 x26_0, .int .i64 x26_1, .string x26_2] ⟨t4, 0, none⟩ 0 w fun w3 =>
      LdI .i64 ⟨t4, 0, none⟩ w3 fun r_0_2 =>
      LdI .i64 ⟨t4, 1, none⟩ w3 fun r_1_2 =>
      LdS ⟨t4, 2, none⟩ w3 fun r_2_2 =>
      R r_0_2 r_1_2 r_2_2 (0 : Int) w3))) = kstep Tryz.prog 27 Tryz.f138.results.toList (Tryz.f138.body.getD .skip) (store_Store_Rec.RV R) (kvc Tryz.prog 27 Tryz.f138.results.toList (Tryz.f138.body.getD .skip) (store_Store_Rec.RV R) [] 2000) [(0, [1, 0, 1]), (0, [1, 1])] [(0, .pointer t), (1, .int .i64 slot), (4, .pointer (some ⟨t4, 0, none⟩)), (11, .bool t11)] w := by kernel_rfl
theorem store_Store_Rec.B1_sound {R : Int → Int → ByteArray → Int → World → Prop}  (t : Option Addr) (slot : Int) (t4 : Nat) (t11 : Bool) (w : World) (h : store_Store_Rec.B1 t slot t4 t11 w   R) :
    KW Tryz.prog 138 27 (store_Store_Rec.RV R) ([(0, [1, 0, 1]), (0, [1, 1])].map (toItem (Tryz.f138.body.getD .skip))) [(0, .pointer t), (1, .int .i64 slot), (4, .pointer (some ⟨t4, 0, none⟩)), (11, .bool t11)] w := by
  exact block_spec Tryz.func138 Tryz.mixed stops_nil (Eq.mp (store_Store_Rec.B1_eq t slot t4 t11 w   R ) h)
def store_Store_Rec.B0 (t : Option Addr) (slot : Int) (w : World)   (R : Int → Int → ByteArray → Int → World → Prop) : Prop :=
  New (.cells #[.int .i64 (0 : Int), .int .i64 (0 : Int), .string (ByteArray.mk #[])] 120) w fun b4 w1 =>
  Bm (decide (slot < (0 : Int))) (
    store_Store_Rec.B1 t slot b4 true w1  R) (
    store_Store_Rec.B1 t slot b4 (decide (slot ≥ (6 : Int))) w1  R)
theorem store_Store_Rec.B0_eq (t : Option Addr) (slot : Int) (w : World)   (R : Int → Int → ByteArray → Int → World → Prop) (sB1 : Option Addr → Int → Nat → Bool → World → Prop) :
    (
  New (.cells #[.int .i64 (0 : Int), .int .i64 (0 : Int), .string (ByteArray.mk #[])] 120) w fun b4 w1 =>
  Bm (decide (slot < (0 : Int))) (
    sB1 t slot b4 true w1) (
    sB1 t slot b4 (decide (slot ≥ (6 : Int))) w1)) = kstep Tryz.prog 27 Tryz.f138.results.toList (Tryz.f138.body.getD .skip) (store_Store_Rec.RV R) (kvc Tryz.prog 27 Tryz.f138.results.toList (Tryz.f138.body.getD .skip) (store_Store_Rec.RV R) [([(0, [1, 0, 1]), (0, [1, 1])], fun σ w => dP (slotOf σ 0) fun t_ => dI .i64 (slotOf σ 1) fun slot_ => dK (slotOf σ 4) fun t4_ => dB (slotOf σ 11) fun t11_ => sB1 t_ slot_ t4_ t11_ w)] 2000) [(0, [])] [(0, .pointer t), (1, .int .i64 slot)] w := by kernel_rfl
theorem store_Store_Rec.B0_sound {R : Int → Int → ByteArray → Int → World → Prop}  (t : Option Addr) (slot : Int) (w : World) (h : store_Store_Rec.B0 t slot w   R) :
    KW Tryz.prog 138 27 (store_Store_Rec.RV R) ([(0, [])].map (toItem (Tryz.f138.body.getD .skip))) [(0, .pointer t), (1, .int .i64 slot)] w := by
  exact block_spec Tryz.func138 Tryz.mixed (stops_cons (fun σ w h => by
      obtain ⟨t_, e0, h⟩ := dP_elim h
      obtain ⟨slot_, e1, h⟩ := dI_elim h
      obtain ⟨t4_, e2, h⟩ := dK_elim h
      obtain ⟨t11_, e3, h⟩ := dB_elim h
      exact (store_Store_Rec.B1_sound  t_ slot_ t4_ t11_ w h).weaken (Sub.cons (Sub.cons (Sub.cons (Sub.cons (Sub.nil _) e3) e2) e1) e0)) stops_nil) (Eq.mp (store_Store_Rec.B0_eq t slot w   R (fun t_ slot_ t4_ t11_ w => store_Store_Rec.B1 t_ slot_ t4_ t11_ w  R)) h)
theorem store_Store_Rec.sound (t : Option Addr) (slot : Int) (w : World) (R : Int → Int → ByteArray → Int → World → Prop) (h : store_Store_Rec.B0 t slot w R) : store_Store_Rec.Call t slot w R := by
  have hc := calls_of_block (args := #[.pointer t, .int .i64 slot]) Tryz.func138 (body := (Tryz.f138.body.getD .skip)) (by kernel_rfl) (by kernel_rfl) (args_slot _) (store_Store_Rec.B0_sound t slot w h)
  exact hc.mono fun e w' he => by
    obtain ⟨v, rfl, hv⟩ := he
    exact store_Store_Rec.RV_elim hv
def rlog_Log_indexIn.L1b (l : Option Addr) (s i : Int) (w : World)  (N1 : Option Addr → Int → Int → World → Prop) (R : Int → World → Prop) : Prop :=
  Pn l fun a =>
  LdI .i64 (a.add 6) w fun x15 =>
  Bm (decide (i ≤ x15)) (
    rlog_slotOf.Call i w fun r20 w1 =>
    Bm (r20 == s) (
      R i w1) (
      N1 l s (IntKind.i64.wrap (i + (1 : Int))) w1)) (
    R (0 : Int) w)
theorem rlog_Log_indexIn.L1b_eq (l : Option Addr) (s i : Int) (w : World)  (N1 : Option Addr → Int → Int → World → Prop) (R : Int → World → Prop)  :
    (
  Pn l fun a =>
  LdI .i64 (a.add 6) w fun x15 =>
  Bm (decide (i ≤ x15)) (
    rlog_slotOf.Call i w fun r20 w1 =>
    Bm (r20 == s) (
      R i w1) (
      N1 l s (IntKind.i64.wrap (i + (1 : Int))) w1)) (
    R (0 : Int) w)) = kstep Tryz.prog 24 Tryz.f139.results.toList (Tryz.f139.body.getD .skip) (rlog_Log_indexIn.RV R) (kvc Tryz.prog 24 Tryz.f139.results.toList (Tryz.f139.body.getD .skip) (rlog_Log_indexIn.RV R) [([(0, [1, 0, 1, 0, 0]), (2, [1, 0, 1, 0, 0]), (1, [0]), (0, [1, 1])], fun σ w => dP (slotOf σ 0) fun l_ => dI .i64 (slotOf σ 1) fun s_ => dI .i64 (slotOf σ 5) fun i_ => N1 l_ s_ i_ w)] 2000) [(0, [1, 0, 1, 0, 0]), (2, [1, 0, 1, 0, 0]), (1, [0]), (0, [1, 1])] [(0, .pointer l), (1, .int .i64 s), (5, .int .i64 i)] w := by kernel_rfl
theorem rlog_Log_indexIn.L1b_sound {R : Int → World → Prop} {N1 : Option Addr → Int → Int → World → Prop} (hN1 : ∀ l s i w, N1 l s i w → KW Tryz.prog 139 24 (rlog_Log_indexIn.RV R) ([(0, [1, 0, 1, 0, 0]), (2, [1, 0, 1, 0, 0]), (1, [0]), (0, [1, 1])].map (toItem (Tryz.f139.body.getD .skip))) [(0, .pointer l), (1, .int .i64 s), (5, .int .i64 i)] w) (l : Option Addr) (s i : Int) (w : World) (h : rlog_Log_indexIn.L1b l s i w  N1 R) :
    KW Tryz.prog 139 24 (rlog_Log_indexIn.RV R) ([(0, [1, 0, 1, 0, 0]), (2, [1, 0, 1, 0, 0]), (1, [0]), (0, [1, 1])].map (toItem (Tryz.f139.body.getD .skip))) [(0, .pointer l), (1, .int .i64 s), (5, .int .i64 i)] w := by
  exact block_spec Tryz.func139 Tryz.mixed (stops_cons (fun σ w h => by
      obtain ⟨l_, e0, h⟩ := dP_elim h
      obtain ⟨s_, e1, h⟩ := dI_elim h
      obtain ⟨i_, e2, h⟩ := dI_elim h
      exact (hN1 l_ s_ i_ w h).weaken (Sub.cons (Sub.cons (Sub.cons (Sub.nil _) e2) e1) e0)) stops_nil) (Eq.mp (rlog_Log_indexIn.L1b_eq l s i w  N1 R ) h)
def rlog_Log_indexIn.L1 (l : Option Addr) (s i : Int) (w : World)  (R : Int → World → Prop) : Prop :=
  ∃ (I : Nat → Option Addr → Int → Int → World → Prop) (m : Nat), I m l s i w ∧ ∀ m l s i w, I m l s i w → rlog_Log_indexIn.L1b l s i w  (fun l' s' i' w' => ∃ m', m' < m ∧ I m' l' s' i' w') R
theorem rlog_Log_indexIn.L1_sound {R : Int → World → Prop}  (l : Option Addr) (s i : Int) (w : World) (h : rlog_Log_indexIn.L1 l s i w  R) :
    KW Tryz.prog 139 24 (rlog_Log_indexIn.RV R) ([(0, [1, 0, 1, 0, 0]), (2, [1, 0, 1, 0, 0]), (1, [0]), (0, [1, 1])].map (toItem (Tryz.f139.body.getD .skip))) [(0, .pointer l), (1, .int .i64 s), (5, .int .i64 i)] w := by
  obtain ⟨I, m, hBase, hr⟩ := h
  refine KW.loop (fun m σ w => ∃ (l : Option Addr) (s i : Int), σ = [(0, .pointer l), (1, .int .i64 s), (5, .int .i64 i)] ∧ I m l s i w) ?_ m _ w ⟨l, s, i, rfl, hBase⟩
  rintro m ih σ w ⟨l, s, i, rfl, hI⟩
  exact rlog_Log_indexIn.L1b_sound  (N1 := fun l' s' i' w' => ∃ m', m' < m ∧ I m' l' s' i' w') (fun l' s' i' w' hx => by obtain ⟨m', hlt, hI'⟩ := hx; exact ih m' hlt _ w' ⟨l', s', i', rfl, hI'⟩) l s i w (hr m l s i w hI)
def rlog_Log_indexIn.B0 (l : Option Addr) (s : Int) (w : World)   (R : Int → World → Prop) : Prop :=
  Pn l fun a =>
  LdI .i64 (a.add 3) w fun x9 =>
  rlog_Log_indexIn.L1 l s (IntKind.i64.wrap (x9 + (1 : Int))) w  R
theorem rlog_Log_indexIn.B0_eq (l : Option Addr) (s : Int) (w : World)   (R : Int → World → Prop) (sL1 : Option Addr → Int → Int → World → Prop) :
    (
  Pn l fun a =>
  LdI .i64 (a.add 3) w fun x9 =>
  sL1 l s (IntKind.i64.wrap (x9 + (1 : Int))) w) = kstep Tryz.prog 24 Tryz.f139.results.toList (Tryz.f139.body.getD .skip) (rlog_Log_indexIn.RV R) (kvc Tryz.prog 24 Tryz.f139.results.toList (Tryz.f139.body.getD .skip) (rlog_Log_indexIn.RV R) [([(0, [1, 0, 1, 0, 0]), (2, [1, 0, 1, 0, 0]), (1, [0]), (0, [1, 1])], fun σ w => dP (slotOf σ 0) fun l_ => dI .i64 (slotOf σ 1) fun s_ => dI .i64 (slotOf σ 5) fun i_ => sL1 l_ s_ i_ w)] 2000) [(0, [])] [(0, .pointer l), (1, .int .i64 s)] w := by kernel_rfl
theorem rlog_Log_indexIn.B0_sound {R : Int → World → Prop}  (l : Option Addr) (s : Int) (w : World) (h : rlog_Log_indexIn.B0 l s w   R) :
    KW Tryz.prog 139 24 (rlog_Log_indexIn.RV R) ([(0, [])].map (toItem (Tryz.f139.body.getD .skip))) [(0, .pointer l), (1, .int .i64 s)] w := by
  exact block_spec Tryz.func139 Tryz.mixed (stops_cons (fun σ w h => by
      obtain ⟨l_, e0, h⟩ := dP_elim h
      obtain ⟨s_, e1, h⟩ := dI_elim h
      obtain ⟨i_, e2, h⟩ := dI_elim h
      exact (rlog_Log_indexIn.L1_sound  l_ s_ i_ w h).weaken (Sub.cons (Sub.cons (Sub.cons (Sub.nil _) e2) e1) e0)) stops_nil) (Eq.mp (rlog_Log_indexIn.B0_eq l s w   R (fun l_ s_ i_ w => rlog_Log_indexIn.L1 l_ s_ i_ w  R)) h)
theorem rlog_Log_indexIn.sound (l : Option Addr) (s : Int) (w : World) (R : Int → World → Prop) (h : rlog_Log_indexIn.B0 l s w R) : rlog_Log_indexIn.Call l s w R := by
  have hc := calls_of_block (args := #[.pointer l, .int .i64 s]) Tryz.func139 (body := (Tryz.f139.body.getD .skip)) (by kernel_rfl) (by kernel_rfl) (args_slot _) (rlog_Log_indexIn.B0_sound l s w h)
  exact hc.mono fun e w' he => by
    obtain ⟨v, rfl, hv⟩ := he
    exact rlog_Log_indexIn.RV_elim hv
end Go.Proofs.Qxb6500433aGreat
