import Derived.Test.Qxb6500433aGreatSig
set_option maxRecDepth 100000
set_option linter.unusedVariables false
open Go.Vc
namespace Go.Proofs.Qxb6500433aGreat
def sync_Sync_reply.B0 (s : Option Addr) (k p : Int) (ok : Bool) (index : Int) (w : World)   (R : World → Prop) : Prop :=
  Pn s fun a =>
  LdP (a.add 1) w fun x15 =>
  elect_Elect_Id.Call x15 w fun r16 w1 =>
  Pn s fun a_1 =>
  LdP (a_1.add 1) w1 fun x20 =>
  elect_Elect_Term.Call x20 w1 fun r21 w2 =>
  sync_Sync_post.Call s k r16 p r21 index (0 : Int) (0 : Int) ok none 0 0 (ByteArray.mk #[]) w2 fun w3 =>
  R  w3
theorem sync_Sync_reply.B0_eq (s : Option Addr) (k p : Int) (ok : Bool) (index : Int) (w : World)   (R : World → Prop)  :
    (
  Pn s fun a =>
  LdP (a.add 1) w fun x15 =>
  elect_Elect_Id.Call x15 w fun r16 w1 =>
  Pn s fun a_1 =>
  LdP (a_1.add 1) w1 fun x20 =>
  elect_Elect_Term.Call x20 w1 fun r21 w2 =>
  sync_Sync_post.Call s k r16 p r21 index (0 : Int) (0 : Int) ok none 0 0 (ByteArray.mk #[]) w2 fun w3 =>
  R  w3) = kstep Tryz.prog 31 Tryz.f153.results.toList (Tryz.f153.body.getD .skip) (sync_Sync_reply.RV R) (kvc Tryz.prog 31 Tryz.f153.results.toList (Tryz.f153.body.getD .skip) (sync_Sync_reply.RV R) [] 2000) [(0, [])] [(0, .pointer s), (1, .int .i64 k), (2, .int .i64 p), (3, .bool ok), (4, .int .i64 index)] w := by kernel_rfl
theorem sync_Sync_reply.B0_sound {R : World → Prop}  (s : Option Addr) (k p : Int) (ok : Bool) (index : Int) (w : World) (h : sync_Sync_reply.B0 s k p ok index w   R) :
    KW Tryz.prog 153 31 (sync_Sync_reply.RV R) ([(0, [])].map (toItem (Tryz.f153.body.getD .skip))) [(0, .pointer s), (1, .int .i64 k), (2, .int .i64 p), (3, .bool ok), (4, .int .i64 index)] w := by
  exact block_spec Tryz.func153 Tryz.mixed stops_nil (Eq.mp (sync_Sync_reply.B0_eq s k p ok index w   R ) h)
theorem sync_Sync_reply.sound (s : Option Addr) (k p : Int) (ok : Bool) (index : Int) (w : World) (R : World → Prop) (h : sync_Sync_reply.B0 s k p ok index w R) : sync_Sync_reply.Call s k p ok index w R := by
  have hc := calls_of_block (args := #[.pointer s, .int .i64 k, .int .i64 p, .bool ok, .int .i64 index]) Tryz.func153 (body := (Tryz.f153.body.getD .skip)) (by kernel_rfl) (by kernel_rfl) (args_slot _) (sync_Sync_reply.B0_sound s k p ok index w h)
  exact hc.mono fun e w' he => by
    obtain ⟨v, rfl, hv⟩ := he
    exact sync_Sync_reply.RV_elim hv
def elect_Elect_GotVote.B2 (e : Option Addr) (from0 role : Int) (t38 : Bool) (w : World)   (R : Bool → World → Prop) : Prop :=
  Bm t38 (
    R false w) (
    Pn e fun a =>
    LdI .i64 (a.add 3) w.drew fun x43 =>
    elect_bit.Call from0 w.drew fun r45 w1 =>
    w1.cell? (a.add 3) = some (.int .i64 x43) ∧
    Pn e fun a_1 =>
    Sts [.int .i64 (IntKind.i64.wrap (BitVec.ofInt IntKind.i64.bits x43 ||| BitVec.ofInt IntKind.i64.bits r45).toNat)] (a_1.add 3) 0 w1 fun w2 =>
    Pn e fun a_2 =>
    LdI .i64 (a_2.add 3) w2 fun x52 =>
    elect_count.Call x52 w2 fun r53 w3 =>
    Bm (decide (r53 < (2 : Int))) (
      R false w3) (
      elect_turn.Call role (3 : Int) w3 fun r56 w4 =>
      elect_Elect_Vote.Call e w4 fun r58 w5 =>
      Pn e fun a_3 =>
      LdI .i64 a_3 w5 fun x65 =>
      elect_Elect_put.Call e r56 r58 x65 w5 fun w6 =>
      elect_Elect_wind.Call e w6 fun w7 =>
      R true w7))
theorem elect_Elect_GotVote.B2_eq (e : Option Addr) (from0 role : Int) (t38 : Bool) (w : World)   (R : Bool → World → Prop)  :
    (
  Bm t38 (
    R false w) (
    Pn e fun a =>
    LdI .i64 (a.add 3) w.drew fun x43 =>
    elect_bit.Call from0 w.drew fun r45 w1 =>
    w1.cell? (a.add 3) = some (.int .i64 x43) ∧
    Pn e fun a_1 =>
    Sts [.int .i64 (IntKind.i64.wrap (BitVec.ofInt IntKind.i64.bits x43 ||| BitVec.ofInt IntKind.i64.bits r45).toNat)] (a_1.add 3) 0 w1 fun w2 =>
    Pn e fun a_2 =>
    LdI .i64 (a_2.add 3) w2 fun x52 =>
    elect_count.Call x52 w2 fun r53 w3 =>
    Bm (decide (r53 < (2 : Int))) (
      R false w3) (
      elect_turn.Call role (3 : Int) w3 fun r56 w4 =>
      elect_Elect_Vote.Call e w4 fun r58 w5 =>
      Pn e fun a_3 =>
      LdI .i64 a_3 w5 fun x65 =>
      elect_Elect_put.Call e r56 r58 x65 w5 fun w6 =>
      elect_Elect_wind.Call e w6 fun w7 =>
      R true w7))) = kstep Tryz.prog 69 Tryz.f154.results.toList (Tryz.f154.body.getD .skip) (elect_Elect_GotVote.RV R) (kvc Tryz.prog 69 Tryz.f154.results.toList (Tryz.f154.body.getD .skip) (elect_Elect_GotVote.RV R) [] 2000) [(0, [1, 1, 1, 1, 0, 1]), (0, [1, 1, 1, 1, 1])] [(0, .pointer e), (1, .int .i64 from0), (9, .int .i64 role), (38, .bool t38)] w := by kernel_rfl
theorem elect_Elect_GotVote.B2_sound {R : Bool → World → Prop}  (e : Option Addr) (from0 role : Int) (t38 : Bool) (w : World) (h : elect_Elect_GotVote.B2 e from0 role t38 w   R) :
    KW Tryz.prog 154 69 (elect_Elect_GotVote.RV R) ([(0, [1, 1, 1, 1, 0, 1]), (0, [1, 1, 1, 1, 1])].map (toItem (Tryz.f154.body.getD .skip))) [(0, .pointer e), (1, .int .i64 from0), (9, .int .i64 role), (38, .bool t38)] w := by
  exact block_spec Tryz.func154 Tryz.mixed stops_nil (Eq.mp (elect_Elect_GotVote.B2_eq e from0 role t38 w   R ) h)
def elect_Elect_GotVote.B1 (e : Option Addr) (from0 term : Int) (granted t18 : Bool) (w : World)   (R : Bool → World → Prop) : Prop :=
  Bm t18 (
    R false w) (
    elect_Elect_See.Call e term w fun r21 w1 =>
    Bm r21 (
      R false w1) (
      elect_Elect_Role.Call e w1 fun r23 w2 =>
      elect_turn.Call r23 (2 : Int) w2 fun r25 w3 =>
      Bm (decide (r25 < (0 : Int))) (
        elect_Elect_GotVote.B2 e from0 r23 true w3  R) (
        Pn e fun a =>
        LdI .i64 (a.add 1) w3 fun x32 =>
        Bm (decide (term < x32)) (
          elect_Elect_GotVote.B2 e from0 r23 true w3  R) (
          elect_Elect_GotVote.B2 e from0 r23 (!granted) w3  R))))
theorem elect_Elect_GotVote.B1_eq (e : Option Addr) (from0 term : Int) (granted t18 : Bool) (w : World)   (R : Bool → World → Prop) (sB2 : Option Addr → Int → Int → Bool → World → Prop) :
    (
  Bm t18 (
    R false w) (
    elect_Elect_See.Call e term w fun r21 w1 =>
    Bm r21 (
      R false w1) (
      elect_Elect_Role.Call e w1 fun r23 w2 =>
      elect_turn.Call r23 (2 : Int) w2 fun r25 w3 =>
      Bm (decide (r25 < (0 : Int))) (
        sB2 e from0 r23 true w3) (
        Pn e fun a =>
        LdI .i64 (a.add 1) w3 fun x32 =>
        Bm (decide (term < x32)) (
          sB2 e from0 r23 true w3) (
          sB2 e from0 r23 (!granted) w3))))) = kstep Tryz.prog 69 Tryz.f154.results.toList (Tryz.f154.body.getD .skip) (elect_Elect_GotVote.RV R) (kvc Tryz.prog 69 Tryz.f154.results.toList (Tryz.f154.body.getD .skip) (elect_Elect_GotVote.RV R) [([(0, [1, 1, 1, 1, 0, 1]), (0, [1, 1, 1, 1, 1])], fun σ w => dP (slotOf σ 0) fun e_ => dI .i64 (slotOf σ 1) fun from0_ => dI .i64 (slotOf σ 9) fun role_ => dB (slotOf σ 38) fun t38_ => sB2 e_ from0_ role_ t38_ w)] 2000) [(0, [1, 0, 1]), (0, [1, 1])] [(0, .pointer e), (1, .int .i64 from0), (2, .int .i64 term), (3, .bool granted), (18, .bool t18)] w := by kernel_rfl
theorem elect_Elect_GotVote.B1_sound {R : Bool → World → Prop}  (e : Option Addr) (from0 term : Int) (granted t18 : Bool) (w : World) (h : elect_Elect_GotVote.B1 e from0 term granted t18 w   R) :
    KW Tryz.prog 154 69 (elect_Elect_GotVote.RV R) ([(0, [1, 0, 1]), (0, [1, 1])].map (toItem (Tryz.f154.body.getD .skip))) [(0, .pointer e), (1, .int .i64 from0), (2, .int .i64 term), (3, .bool granted), (18, .bool t18)] w := by
  exact block_spec Tryz.func154 Tryz.mixed (stops_cons (fun σ w h => by
      obtain ⟨e_, e0, h⟩ := dP_elim h
      obtain ⟨from0_, e1, h⟩ := dI_elim h
      obtain ⟨role_, e2, h⟩ := dI_elim h
      obtain ⟨t38_, e3, h⟩ := dB_elim h
      exact (elect_Elect_GotVote.B2_sound  e_ from0_ role_ t38_ w h).weaken (Sub.cons (Sub.cons (Sub.cons (Sub.cons (Sub.nil _) e3) e2) e1) e0)) stops_nil) (Eq.mp (elect_Elect_GotVote.B1_eq e from0 term granted t18 w   R (fun e_ from0_ role_ t38_ w => elect_Elect_GotVote.B2 e_ from0_ role_ t38_ w  R)) h)
def elect_Elect_GotVote.B0 (e : Option Addr) (from0 term : Int) (granted : Bool) (w : World)   (R : Bool → World → Prop) : Prop :=
  elect_Elect_peer.Call e from0 w fun r13 w1 =>
  Bm (!r13) (
    elect_Elect_GotVote.B1 e from0 term granted true w1  R) (
    elect_Elect_GotVote.B1 e from0 term granted (decide (term > (72057594037927936 : Int))) w1  R)
theorem elect_Elect_GotVote.B0_eq (e : Option Addr) (from0 term : Int) (granted : Bool) (w : World)   (R : Bool → World → Prop) (sB1 : Option Addr → Int → Int → Bool → Bool → World → Prop) :
    (
  elect_Elect_peer.Call e from0 w fun r13 w1 =>
  Bm (!r13) (
    sB1 e from0 term granted true w1) (
    sB1 e from0 term granted (decide (term > (72057594037927936 : Int))) w1)) = kstep Tryz.prog 69 Tryz.f154.results.toList (Tryz.f154.body.getD .skip) (elect_Elect_GotVote.RV R) (kvc Tryz.prog 69 Tryz.f154.results.toList (Tryz.f154.body.getD .skip) (elect_Elect_GotVote.RV R) [([(0, [1, 0, 1]), (0, [1, 1])], fun σ w => dP (slotOf σ 0) fun e_ => dI .i64 (slotOf σ 1) fun from0_ => dI .i64 (slotOf σ 2) fun term_ => dB (slotOf σ 3) fun granted_ => dB (slotOf σ 18) fun t18_ => sB1 e_ from0_ term_ granted_ t18_ w)] 2000) [(0, [])] [(0, .pointer e), (1, .int .i64 from0), (2, .int .i64 term), (3, .bool granted)] w := by kernel_rfl
theorem elect_Elect_GotVote.B0_sound {R : Bool → World → Prop}  (e : Option Addr) (from0 term : Int) (granted : Bool) (w : World) (h : elect_Elect_GotVote.B0 e from0 term granted w   R) :
    KW Tryz.prog 154 69 (elect_Elect_GotVote.RV R) ([(0, [])].map (toItem (Tryz.f154.body.getD .skip))) [(0, .pointer e), (1, .int .i64 from0), (2, .int .i64 term), (3, .bool granted)] w := by
  exact block_spec Tryz.func154 Tryz.mixed (stops_cons (fun σ w h => by
      obtain ⟨e_, e0, h⟩ := dP_elim h
      obtain ⟨from0_, e1, h⟩ := dI_elim h
      obtain ⟨term_, e2, h⟩ := dI_elim h
      obtain ⟨granted_, e3, h⟩ := dB_elim h
      obtain ⟨t18_, e4, h⟩ := dB_elim h
      exact (elect_Elect_GotVote.B1_sound  e_ from0_ term_ granted_ t18_ w h).weaken (Sub.cons (Sub.cons (Sub.cons (Sub.cons (Sub.cons (Sub.nil _) e4) e3) e2) e1) e0)) stops_nil) (Eq.mp (elect_Elect_GotVote.B0_eq e from0 term granted w   R (fun e_ from0_ term_ granted_ t18_ w => elect_Elect_GotVote.B1 e_ from0_ term_ granted_ t18_ w  R)) h)
theorem elect_Elect_GotVote.sound (e : Option Addr) (from0 term : Int) (granted : Bool) (w : World) (R : Bool → World → Prop) (h : elect_Elect_GotVote.B0 e from0 term granted w R) : elect_Elect_GotVote.Call e from0 term granted w R := by
  have hc := calls_of_block (args := #[.pointer e, .int .i64 from0, .int .i64 term, .bool granted]) Tryz.func154 (body := (Tryz.f154.body.getD .skip)) (by kernel_rfl) (by kernel_rfl) (args_slot _) (elect_Elect_GotVote.B0_sound e from0 term granted w h)
  exact hc.mono fun e w' he => by
    obtain ⟨v, rfl, hv⟩ := he
    exact elect_Elect_GotVote.RV_elim hv
def sync_Sync_grow.B0 (s : Option Addr) (e_0 : Int) (e_1 : ByteArray) (w : World)   (R : Int → World → Prop) : Prop :=
  New (.cells #[.int .i64 e_0, .string e_1] 103) w fun e_ w1 =>
  Pn s fun a =>
  LdP a w1.drew fun x9 =>
  LdI .i64 ⟨e_, 0, none⟩ w1.drew fun x10_0 =>
  LdS ⟨e_, 1, none⟩ w1.drew fun x10_1 =>
  rlog_Log_Append.Call x9 x10_0 x10_1 w1.drew fun r11 w2 =>
  Bm (r11 == (0 : Int)) (
    Pn s fun a_1 =>
    LdI .i64 (a_1.add 9) w2 fun x17 =>
    Pn s fun a_2 =>
    Sts [.int .i64 (IntKind.i64.wrap (x17 + (1 : Int)))] (a_2.add 9) 0 w2 fun w3 =>
    LdI .i64 ⟨e_, 0, none⟩ w3 fun x23 =>
    Pn s fun a_3 =>
    Sts [.int .i64 x23] (a_3.add 10) 0 w3 fun w4 =>
    R r11 w4) (
    R r11 w2)
theorem sync_Sync_grow.B0_eq (s : Option Addr) (e_0 : Int) (e_1 : ByteArray) (w : World)   (R : Int → World → Prop)  :
    (
  New (.cells #[.int .i64 e_0, .string e_1] 103) w fun e_ w1 =>
  Pn s fun a =>
  LdP a w1.drew fun x9 =>
  LdI .i64 ⟨e_, 0, none⟩ w1.drew fun x10_0 =>
  LdS ⟨e_, 1, none⟩ w1.drew fun x10_1 =>
  rlog_Log_Append.Call x9 x10_0 x10_1 w1.drew fun r11 w2 =>
  Bm (r11 == (0 : Int)) (
    Pn s fun a_1 =>
    LdI .i64 (a_1.add 9) w2 fun x17 =>
    Pn s fun a_2 =>
    Sts [.int .i64 (IntKind.i64.wrap (x17 + (1 : Int)))] (a_2.add 9) 0 w2 fun w3 =>
    LdI .i64 ⟨e_, 0, none⟩ w3 fun x23 =>
    Pn s fun a_3 =>
    Sts [.int .i64 x23] (a_3.add 10) 0 w3 fun w4 =>
    R r11 w4) (
    R r11 w2)) = kstep Tryz.prog 27 Tryz.f155.results.toList (Tryz.f155.body.getD .skip) (sync_Sync_grow.RV R) (kvc Tryz.prog 27 Tryz.f155.results.toList (Tryz.f155.body.getD .skip) (sync_Sync_grow.RV R) [] 2000) [(0, [])] [(0, .pointer s), (1, .agg #[.int .i64 e_0, .string e_1])] w := by kernel_rfl
theorem sync_Sync_grow.B0_sound {R : Int → World → Prop}  (s : Option Addr) (e_0 : Int) (e_1 : ByteArray) (w : World) (h : sync_Sync_grow.B0 s e_0 e_1 w   R) :
    KW Tryz.prog 155 27 (sync_Sync_grow.RV R) ([(0, [])].map (toItem (Tryz.f155.body.getD .skip))) [(0, .pointer s), (1, .agg #[.int .i64 e_0, .string e_1])] w := by
  exact block_spec Tryz.func155 Tryz.mixed stops_nil (Eq.mp (sync_Sync_grow.B0_eq s e_0 e_1 w   R ) h)
theorem sync_Sync_grow.sound (s : Option Addr) (e_0 : Int) (e_1 : ByteArray) (w : World) (R : Int → World → Prop) (h : sync_Sync_grow.B0 s e_0 e_1 w R) : sync_Sync_grow.Call s e_0 e_1 w R := by
  have hc := calls_of_block (args := #[.pointer s, .agg #[.int .i64 e_0, .string e_1]]) Tryz.func155 (body := (Tryz.f155.body.getD .skip)) (by kernel_rfl) (by kernel_rfl) (args_slot _) (sync_Sync_grow.B0_sound s e_0 e_1 w h)
  exact hc.mono fun e w' he => by
    obtain ⟨v, rfl, hv⟩ := he
    exact sync_Sync_grow.RV_elim hv
def elect_Elect_Heard.B2 (e : Option Addr) (from0 role : Int) (t33 : Bool) (w : World)   (R : Bool → World → Prop) : Prop :=
  Bm t33 (
    R false w) (
    elect_Elect_Vote.Call e w fun r35 w1 =>
    Pn e fun a =>
    Sts [.int .i64 (0 : Int)] (a.add 3) 0 w1 fun w2 =>
    elect_Elect_put.Call e role r35 from0 w2 fun w3 =>
    elect_Elect_wind.Call e w3 fun w4 =>
    R true w4)
theorem elect_Elect_Heard.B2_eq (e : Option Addr) (from0 role : Int) (t33 : Bool) (w : World)   (R : Bool → World → Prop)  :
    (
  Bm t33 (
    R false w) (
    elect_Elect_Vote.Call e w fun r35 w1 =>
    Pn e fun a =>
    Sts [.int .i64 (0 : Int)] (a.add 3) 0 w1 fun w2 =>
    elect_Elect_put.Call e role r35 from0 w2 fun w3 =>
    elect_Elect_wind.Call e w3 fun w4 =>
    R true w4)) = kstep Tryz.prog 46 Tryz.f156.results.toList (Tryz.f156.body.getD .skip) (elect_Elect_Heard.RV R) (kvc Tryz.prog 46 Tryz.f156.results.toList (Tryz.f156.body.getD .skip) (elect_Elect_Heard.RV R) [] 2000) [(0, [1, 1, 1, 1, 1, 0, 1]), (0, [1, 1, 1, 1, 1, 1])] [(0, .pointer e), (1, .int .i64 from0), (7, .int .i64 role), (33, .bool t33)] w := by kernel_rfl
theorem elect_Elect_Heard.B2_sound {R : Bool → World → Prop}  (e : Option Addr) (from0 role : Int) (t33 : Bool) (w : World) (h : elect_Elect_Heard.B2 e from0 role t33 w   R) :
    KW Tryz.prog 156 46 (elect_Elect_Heard.RV R) ([(0, [1, 1, 1, 1, 1, 0, 1]), (0, [1, 1, 1, 1, 1, 1])].map (toItem (Tryz.f156.body.getD .skip))) [(0, .pointer e), (1, .int .i64 from0), (7, .int .i64 role), (33, .bool t33)] w := by
  exact block_spec Tryz.func156 Tryz.mixed stops_nil (Eq.mp (elect_Elect_Heard.B2_eq e from0 role t33 w   R ) h)
def elect_Elect_Heard.B1 (e : Option Addr) (from0 term : Int) (t16 : Bool) (w : World)   (R : Bool → World → Prop) : Prop :=
  Bm t16 (
    R false w) (
    elect_Elect_See.Call e term w fun r19 w1 =>
    elect_Elect_Role.Call e w1 fun r21 w2 =>
    elect_turn.Call r21 (4 : Int) w2 fun r23 w3 =>
    Pn e fun a =>
    LdI .i64 (a.add 1) w3 fun x28 =>
    Bm (decide (term < x28)) (
      elect_Elect_Heard.B2 e from0 r23 true w3  R) (
      elect_Elect_Heard.B2 e from0 r23 (decide (r23 < (0 : Int))) w3  R))
theorem elect_Elect_Heard.B1_eq (e : Option Addr) (from0 term : Int) (t16 : Bool) (w : World)   (R : Bool → World → Prop) (sB2 : Option Addr → Int → Int → Bool → World → Prop) :
    (
  Bm t16 (
    R false w) (
    elect_Elect_See.Call e term w fun r19 w1 =>
    elect_Elect_Role.Call e w1 fun r21 w2 =>
    elect_turn.Call r21 (4 : Int) w2 fun r23 w3 =>
    Pn e fun a =>
    LdI .i64 (a.add 1) w3 fun x28 =>
    Bm (decide (term < x28)) (
      sB2 e from0 r23 true w3) (
      sB2 e from0 r23 (decide (r23 < (0 : Int))) w3))) = kstep Tryz.prog 46 Tryz.f156.results.toList (Tryz.f156.body.getD .skip) (elect_Elect_Heard.RV R) (kvc Tryz.prog 46 Tryz.f156.results.toList (Tryz.f156.body.getD .skip) (elect_Elect_Heard.RV R) [([(0, [1, 1, 1, 1, 1, 0, 1]), (0, [1, 1, 1, 1, 1, 1])], fun σ w => dP (slotOf σ 0) fun e_ => dI .i64 (slotOf σ 1) fun from0_ => dI .i64 (slotOf σ 7) fun role_ => dB (slotOf σ 33) fun t33_ => sB2 e_ from0_ role_ t33_ w)] 2000) [(0, [1, 0, 1]), (0, [1, 1])] [(0, .pointer e), (1, .int .i64 from0), (2, .int .i64 term), (16, .bool t16)] w := by kernel_rfl
theorem elect_Elect_Heard.B1_sound {R : Bool → World → Prop}  (e : Option Addr) (from0 term : Int) (t16 : Bool) (w : World) (h : elect_Elect_Heard.B1 e from0 term t16 w   R) :
    KW Tryz.prog 156 46 (elect_Elect_Heard.RV R) ([(0, [1, 0, 1]), (0, [1, 1])].map (toItem (Tryz.f156.body.getD .skip))) [(0, .pointer e), (1, .int .i64 from0), (2, .int .i64 term), (16, .bool t16)] w := by
  exact block_spec Tryz.func156 Tryz.mixed (stops_cons (fun σ w h => by
      obtain ⟨e_, e0, h⟩ := dP_elim h
      obtain ⟨from0_, e1, h⟩ := dI_elim h
      obtain ⟨role_, e2, h⟩ := dI_elim h
      obtain ⟨t33_, e3, h⟩ := dB_elim h
      exact (elect_Elect_Heard.B2_sound  e_ from0_ role_ t33_ w h).weaken (Sub.cons (Sub.cons (Sub.cons (Sub.cons (Sub.nil _) e3) e2) e1) e0)) stops_nil) (Eq.mp (elect_Elect_Heard.B1_eq e from0 term t16 w   R (fun e_ from0_ role_ t33_ w => elect_Elect_Heard.B2 e_ from0_ role_ t33_ w  R)) h)
def elect_Elect_Heard.B0 (e : Option Addr) (from0 term : Int) (w : World)   (R : Bool → World → Prop) : Prop :=
  elect_Elect_peer.Call e from0 w fun r11 w1 =>
  Bm (!r11) (
    elect_Elect_Heard.B1 e from0 term true w1  R) (
    elect_Elect_Heard.B1 e from0 term (decide (term > (72057594037927936 : Int))) w1  R)
theorem elect_Elect_Heard.B0_eq (e : Option Addr) (from0 term : Int) (w : World)   (R : Bool → World → Prop) (sB1 : Option Addr → Int → Int → Bool → World → Prop) :
    (
  elect_Elect_peer.Call e from0 w fun r11 w1 =>
  Bm (!r11) (
    sB1 e from0 term true w1) (
    sB1 e from0 term (decide (term > (72057594037927936 : Int))) w1)) = kstep Tryz.prog 46 Tryz.f156.results.toList (Tryz.f156.body.getD .skip) (elect_Elect_Heard.RV R) (kvc Tryz.prog 46 Tryz.f156.results.toList (Tryz.f156.body.getD .skip) (elect_Elect_Heard.RV R) [([(0, [1, 0, 1]), (0, [1, 1])], fun σ w => dP (slotOf σ 0) fun e_ => dI .i64 (slotOf σ 1) fun from0_ => dI .i64 (slotOf σ 2) fun term_ => dB (slotOf σ 16) fun t16_ => sB1 e_ from0_ term_ t16_ w)] 2000) [(0, [])] [(0, .pointer e), (1, .int .i64 from0), (2, .int .i64 term)] w := by kernel_rfl
theorem elect_Elect_Heard.B0_sound {R : Bool → World → Prop}  (e : Option Addr) (from0 term : Int) (w : World) (h : elect_Elect_Heard.B0 e from0 term w   R) :
    KW Tryz.prog 156 46 (elect_Elect_Heard.RV R) ([(0, [])].map (toItem (Tryz.f156.body.getD .skip))) [(0, .pointer e), (1, .int .i64 from0), (2, .int .i64 term)] w := by
  exact block_spec Tryz.func156 Tryz.mixed (stops_cons (fun σ w h => by
      obtain ⟨e_, e0, h⟩ := dP_elim h
      obtain ⟨from0_, e1, h⟩ := dI_elim h
      obtain ⟨term_, e2, h⟩ := dI_elim h
      obtain ⟨t16_, e3, h⟩ := dB_elim h
      exact (elect_Elect_Heard.B1_sound  e_ from0_ term_ t16_ w h).weaken (Sub.cons (Sub.cons (Sub.cons (Sub.cons (Sub.nil _) e3) e2) e1) e0)) stops_nil) (Eq.mp (elect_Elect_Heard.B0_eq e from0 term w   R (fun e_ from0_ term_ t16_ w => elect_Elect_Heard.B1 e_ from0_ term_ t16_ w  R)) h)
theorem elect_Elect_Heard.sound (e : Option Addr) (from0 term : Int) (w : World) (R : Bool → World → Prop) (h : elect_Elect_Heard.B0 e from0 term w R) : elect_Elect_Heard.Call e from0 term w R := by
  have hc := calls_of_block (args := #[.pointer e, .int .i64 from0, .int .i64 term]) Tryz.func156 (body := (Tryz.f156.body.getD .skip)) (by kernel_rfl) (by kernel_rfl) (args_slot _) (elect_Elect_Heard.B0_sound e from0 term w h)
  exact hc.mono fun e w' he => by
    obtain ⟨v, rfl, hv⟩ := he
    exact elect_Elect_Heard.RV_elim hv
def sync_Sync_accept.B2 (s : Option Addr) (matched c : Int) (w : World)   (R : Bool → Int → World → Prop) : Prop :=
  Pn s fun a =>
  LdI .i64 (a.add 2) w fun x81 =>
  Bm (decide (c > x81)) (
    Pn s fun a_1 =>
    Sts [.int .i64 c] (a_1.add 2) 0 w fun w1 =>
    R true matched w1) (
    R true matched w)
theorem sync_Sync_accept.B2_eq (s : Option Addr) (matched c : Int) (w : World)   (R : Bool → Int → World → Prop)  :
    (
  Pn s fun a =>
  LdI .i64 (a.add 2) w fun x81 =>
  Bm (decide (c > x81)) (
    Pn s fun a_1 =>
    Sts [.int .i64 c] (a_1.add 2) 0 w fun w1 =>
    R true matched w1) (
    R true matched w)) = kstep Tryz.prog 88 Tryz.f157.results.toList (Tryz.f157.body.getD .skip) (sync_Sync_accept.RV R) (kvc Tryz.prog 88 Tryz.f157.results.toList (Tryz.f157.body.getD .skip) (sync_Sync_accept.RV R) [] 2000) [(0, [1, 1, 1, 1, 1, 1, 1, 1, 1, 1, 1, 1])] [(0, .pointer s), (11, .int .i64 matched), (12, .int .i64 c)] w := by kernel_rfl
theorem sync_Sync_accept.B2_sound {R : Bool → Int → World → Prop}  (s : Option Addr) (matched c : Int) (w : World) (h : sync_Sync_accept.B2 s matched c w   R) :
    KW Tryz.prog 157 88 (sync_Sync_accept.RV R) ([(0, [1, 1, 1, 1, 1, 1, 1, 1, 1, 1, 1, 1])].map (toItem (Tryz.f157.body.getD .skip))) [(0, .pointer s), (11, .int .i64 matched), (12, .int .i64 c)] w := by
  exact block_spec Tryz.func157 Tryz.mixed stops_nil (Eq.mp (sync_Sync_accept.B2_eq s matched c w   R ) h)
def sync_Sync_accept.B1 (s : Option Addr) (m0 : Nat) (matched : Int) (w : World)   (R : Bool → Int → World → Prop) : Prop :=
  LdI .i64 ⟨m0, 6, none⟩ w fun x72 =>
  Bm (decide (x72 > matched)) (
    sync_Sync_accept.B2 s matched matched w  R) (
    sync_Sync_accept.B2 s matched x72 w  R)
theorem sync_Sync_accept.B1_eq (s : Option Addr) (m0 : Nat) (matched : Int) (w : World)   (R : Bool → Int → World → Prop) (sB2 : Option Addr → Int → Int → World → Prop) :
    (
  LdI .i64 ⟨m0, 6, none⟩ w fun x72 =>
  Bm (decide (x72 > matched)) (
    sB2 s matched matched w) (
    sB2 s matched x72 w)) = kstep Tryz.prog 88 Tryz.f157.results.toList (Tryz.f157.body.getD .skip) (sync_Sync_accept.RV R) (kvc Tryz.prog 88 Tryz.f157.results.toList (Tryz.f157.body.getD .skip) (sync_Sync_accept.RV R) [([(0, [1, 1, 1, 1, 1, 1, 1, 1, 1, 1, 1, 1])], fun σ w => dP (slotOf σ 0) fun s_ => dI .i64 (slotOf σ 11) fun matched_ => dI .i64 (slotOf σ 12) fun c_ => sB2 s_ matched_ c_ w)] 2000) [(0, [1, 1, 1, 1, 1, 1, 1, 1, 1, 1])] [(0, .pointer s), (3, .pointer (some ⟨m0, 0, none⟩)), (11, .int .i64 matched)] w := by kernel_rfl
theorem sync_Sync_accept.B1_sound {R : Bool → Int → World → Prop}  (s : Option Addr) (m0 : Nat) (matched : Int) (w : World) (h : sync_Sync_accept.B1 s m0 matched w   R) :
    KW Tryz.prog 157 88 (sync_Sync_accept.RV R) ([(0, [1, 1, 1, 1, 1, 1, 1, 1, 1, 1])].map (toItem (Tryz.f157.body.getD .skip))) [(0, .pointer s), (3, .pointer (some ⟨m0, 0, none⟩)), (11, .int .i64 matched)] w := by
  exact block_spec Tryz.func157 Tryz.mixed (stops_cons (fun σ w h => by
      obtain ⟨s_, e0, h⟩ := dP_elim h
      obtain ⟨matched_, e1, h⟩ := dI_elim h
      obtain ⟨c_, e2, h⟩ := dI_elim h
      exact (sync_Sync_accept.B2_sound  s_ matched_ c_ w h).weaken (Sub.cons (Sub.cons (Sub.cons (Sub.nil _) e2) e1) e0)) stops_nil) (Eq.mp (sync_Sync_accept.B1_eq s m0 matched w   R (fun s_ matched_ c_ w => sync_Sync_accept.B2 s_ matched_ c_ w  R)) h)
def sync_Sync_accept.B0 (s : Option Addr) (m0_0 m0_1 m0_2 m0_3 m0_4 m0_5 m0_6 : Int) (m0_7 : Bool) (m0_8_b : Option Addr) (m0_8_l m0_8_c : Nat) (m0_9 : ByteArray) (w : World)   (R : Bool → Int → World → Prop) : Prop :=
  New (.cells #[.int .i64 m0_0, .int .i64 m0_1, .int .i64 m0_2, .int .i64 m0_3, .int .i64 m0_4, .int .i64 m0_5, .int .i64 m0_6, .bool m0_7, .slice m0_8_b m0_8_l m0_8_c, .string m0_9] 40) w fun m0_ w1 =>
  LdI .i64 ⟨m0_, 4, none⟩ w1 fun x14 =>
  Pn s fun a =>
  LdP a w1 fun x18 =>
  rlog_Log_Base.Call x18 w1 fun r19 w2 =>
  Bm (decide (x14 < r19)) (
    R true r19 w2) (
    Pn s fun a_1 =>
    LdI .i64 (a_1.add 9) w2 fun x28 =>
    Bm (decide (x14 > x28)) (
      Pn s fun a_2 =>
      LdI .i64 (a_2.add 9) w2.drew fun x33 =>
      R false x33 w2.drew) (
      Pn s fun a_3 =>
      LdP a_3 w2 fun x38 =>
      rlog_Log_TermAt.Call x38 x14 w2 fun r40_0 r40_1 w3 =>
      LdI .i64 ⟨m0_, 5, none⟩ w3 fun x45 =>
      Bm (r40_0 != x45) (
        Bm (x14 == (0 : Int)) (
          R false (0 : Int) w3) (
          R false (IntKind.i64.wrap (x14 - (1 : Int))) w3)) (
        LdL ⟨m0_, 8, none⟩ w3 fun x54_b x54_l x54_c =>
        sync_Sync_agree.Call s x14 x54_b x54_l x54_c w3 fun r55 w4 =>
        LdL ⟨m0_, 8, none⟩ w4 fun x61_b x61_l x61_c =>
        Bm (decide (r55 < ((x61_l : Nat) : Int))) (
          LdL ⟨m0_, 8, none⟩ w4 fun x68_b x68_l x68_c =>
          sync_Sync_repair.Call s (IntKind.i64.wrap ((IntKind.i64.wrap (x14 + r55)) + (1 : Int))) x68_b x68_l x68_c r55 w4 fun r70 w5 =>
          sync_Sync_accept.B1 s m0_ r70 w5  R) (
          sync_Sync_accept.B1 s m0_ (IntKind.i64.wrap (x14 + r55)) w4  R))))
theorem sync_Sync_accept.B0_eq (s : Option Addr) (m0_0 m0_1 m0_2 m0_3 m0_4 m0_5 m0_6 : Int) (m0_7 : Bool) (m0_8_b : Option Addr) (m0_8_l m0_8_c : Nat) (m0_9 : ByteArray) (w : World)   (R : Bool → Int → World → Prop) (sB1 : Option Addr → Nat → Int → World → Prop) :
    (
  New (.cells #[.int .i64 m0_0, .int .i64 m0_1, .int .i64 m0_2, .int .i64 m0_3, .int .i64 m0_4, .int .i64 m0_5, .int .i64 m0_6, .bool m0_7, .slice m0_8_b m0_8_l m0_8_c, .string m0_9] 40) w fun m0_ w1 =>
  LdI .i64 ⟨m0_, 4, none⟩ w1 fun x14 =>
  Pn s fun a =>
  LdP a w1 fun x18 =>
  rlog_Log_Base.Call x18 w1 fun r19 w2 =>
  Bm (decide (x14 < r19)) (
    R true r19 w2) (
    Pn s fun a_1 =>
    LdI .i64 (a_1.add 9) w2 fun x28 =>
    Bm (decide (x14 > x28)) (
      Pn s fun a_2 =>
      LdI .i64 (a_2.add 9) w2.drew fun x33 =>
      R false x33 w2.drew) (
      Pn s fun a_3 =>
      LdP a_3 w2 fun x38 =>
      rlog_Log_TermAt.Call x38 x14 w2 fun r40_0 r40_1 w3 =>
      LdI .i64 ⟨m0_, 5, none⟩ w3 fun x45 =>
      Bm (r40_0 != x45) (
        Bm (x14 == (0 : Int)) (
          R false (0 : Int) w3) (
          R false (IntKind.i64.wrap (x14 - (1 : Int))) w3)) (
        LdL ⟨m0_, 8, none⟩ w3 fun x54_b x54_l x54_c =>
        sync_Sync_agree.Call s x14 x54_b x54_l x54_c w3 fun r55 w4 =>
        LdL ⟨m0_, 8, none⟩ w4 fun x61_b x61_l x61_c =>
        Bm (decide (r55 < ((x61_l : Nat) : Int))) (
          LdL ⟨m0_, 8, none⟩ w4 fun x68_b x68_l x68_c =>
          sync_Sync_repair.Call s (IntKind.i64.wrap ((IntKind.i64.wrap (x14 + r55)) + (1 : Int))) x68_b x68_l x68_c r55 w4 fun r70 w5 =>
          sB1 s m0_ r70 w5) (
          sB1 s m0_ (IntKind.i64.wrap (x14 + r55)) w4))))) = kstep Tryz.prog 88 Tryz.f157.results.toList (Tryz.f157.body.getD .skip) (sync_Sync_accept.RV R) (kvc Tryz.prog 88 Tryz.f157.results.toList (Tryz.f157.body.getD .skip) (sync_Sync_accept.RV R) [([(0, [1, 1, 1, 1, 1, 1, 1, 1, 1, 1])], fun σ w => dP (slotOf σ 0) fun s_ => dK (slotOf σ 3) fun m0_ => dI .i64 (slotOf σ 11) fun matched_ => sB1 s_ m0_ matched_ w)] 2000) [(0, [])] [(0, .pointer s), (1, .agg #[.int .i64 m0_0, .int .i64 m0_1, .int .i64 m0_2, .int .i64 m0_3, .int .i64 m0_4, .int .i64 m0_5, .int .i64 m0_6, .bool m0_7, .slice m0_8_b m0_8_l m0_8_c, .string m0_9])] w := by kernel_rfl
theorem sync_Sync_accept.B0_sound {R : Bool → Int → World → Prop}  (s : Option Addr) (m0_0 m0_1 m0_2 m0_3 m0_4 m0_5 m0_6 : Int) (m0_7 : Bool) (m0_8_b : Option Addr) (m0_8_l m0_8_c : Nat) (m0_9 : ByteArray) (w : World) (h : sync_Sync_accept.B0 s m0_0 m0_1 m0_2 m0_3 m0_4 m0_5 m0_6 m0_7 m0_8_b m0_8_l m0_8_c m0_9 w   R) :
    KW Tryz.prog 157 88 (sync_Sync_accept.RV R) ([(0, [])].map (toItem (Tryz.f157.body.getD .skip))) [(0, .pointer s), (1, .agg #[.int .i64 m0_0, .int .i64 m0_1, .int .i64 m0_2, .int .i64 m0_3, .int .i64 m0_4, .int .i64 m0_5, .int .i64 m0_6, .bool m0_7, .slice m0_8_b m0_8_l m0_8_c, .string m0_9])] w := by
  exact block_spec Tryz.func157 Tryz.mixed (stops_cons (fun σ w h => by
      obtain ⟨s_, e0, h⟩ := dP_elim h
      obtain ⟨m0_, e1, h⟩ := dK_elim h
      obtain ⟨matched_, e2, h⟩ := dI_elim h
      exact (sync_Sync_accept.B1_sound  s_ m0_ matched_ w h).weaken (Sub.cons (Sub.cons (Sub.cons (Sub.nil _) e2) e1) e0)) stops_nil) (Eq.mp (sync_Sync_accept.B0_eq s m0_0 m0_1 m0_2 m0_3 m0_4 m0_5 m0_6 m0_7 m0_8_b m0_8_l m0_8_c m0_9 w   R (fun s_ m0_ matched_ w => sync_Sync_accept.B1 s_ m0_ matched_ w  R)) h)
theorem sync_Sync_accept.sound (s : Option Addr) (m0_0 m0_1 m0_2 m0_3 m0_4 m0_5 m0_6 : Int) (m0_7 : Bool) (m0_8_b : Option Addr) (m0_8_l m0_8_c : Nat) (m0_9 : ByteArray) (w : World) (R : Bool → Int → World → Prop) (h : sync_Sync_accept.B0 s m0_0 m0_1 m0_2 m0_3 m0_4 m0_5 m0_6 m0_7 m0_8_b m0_8_l m0_8_c m0_9 w R) : sync_Sync_accept.Call s m0_0 m0_1 m0_2 m0_3 m0_4 m0_5 m0_6 m0_7 m0_8_b m0_8_l m0_8_c m0_9 w R := by
  have hc := calls_of_block (args := #[.pointer s, .agg #[.int .i64 m0_0, .int .i64 m0_1, .int .i64 m0_2, .int .i64 m0_3, .int .i64 m0_4, .int .i64 m0_5, .int .i64 m0_6, .bool m0_7, .slice m0_8_b m0_8_l m0_8_c, .string m0_9]]) Tryz.func157 (body := (Tryz.f157.body.getD .skip)) (by kernel_rfl) (by kernel_rfl) (args_slot _) (sync_Sync_accept.B0_sound s m0_0 m0_1 m0_2 m0_3 m0_4 m0_5 m0_6 m0_7 m0_8_b m0_8_l m0_8_c m0_9 w h)
  exact hc.mono fun e w' he => by
    obtain ⟨v, rfl, hv⟩ := he
    exact sync_Sync_accept.RV_elim hv
def rlog_Log_Install.B2 (l : Option Addr) (idx term : Int) (snap : ByteArray) (t46 : Bool) (w : World)   (R : Int → World → Prop) : Prop :=
  Bm t46 (
    rlog_Log_rebase.Call l idx term snap w fun r51 w1 =>
    R r51 w1) (
    Pn l fun a =>
    LdI .i64 (a.add 3) w fun x56 =>
    rlog_Log_dropFrom.Call l (IntKind.i64.wrap (x56 + (1 : Int))) w fun r58 w2 =>
    Bm (r58 != (0 : Int)) (
      R r58 w2) (
      Pn l fun a_1 =>
      LdP a_1 w2 fun x65 =>
      store_Store_SetSnap.Call x65 idx term snap w2 fun r69 w3 =>
      Bm (r69 != (0 : Int)) (
        R r69 w3) (
        Pn l fun a_2 =>
        Sts [.int .i64 idx] (a_2.add 3) 0 w3 fun w4 =>
        Pn l fun a_3 =>
        Sts [.int .i64 term] (a_3.add 4) 0 w4 fun w5 =>
        Pn l fun a_4 =>
        Sts [.string snap] (a_4.add 5) 0 w5 fun w6 =>
        Pn l fun a_5 =>
        Sts [.int .i64 idx] (a_5.add 6) 0 w6 fun w7 =>
        R (0 : Int) w7)))
theorem rlog_Log_Install.B2_eq (l : Option Addr) (idx term : Int) (snap : ByteArray) (t46 : Bool) (w : World)   (R : Int → World → Prop)  :
    (
  Bm t46 (
    rlog_Log_rebase.Call l idx term snap w fun r51 w1 =>
    R r51 w1) (
    Pn l fun a =>
    LdI .i64 (a.add 3) w fun x56 =>
    rlog_Log_dropFrom.Call l (IntKind.i64.wrap (x56 + (1 : Int))) w fun r58 w2 =>
    Bm (r58 != (0 : Int)) (
      R r58 w2) (
      Pn l fun a_1 =>
      LdP a_1 w2 fun x65 =>
      store_Store_SetSnap.Call x65 idx term snap w2 fun r69 w3 =>
      Bm (r69 != (0 : Int)) (
        R r69 w3) (
        Pn l fun a_2 =>
        Sts [.int .i64 idx] (a_2.add 3) 0 w3 fun w4 =>
        Pn l fun a_3 =>
        Sts [.int .i64 term] (a_3.add 4) 0 w4 fun w5 =>
        Pn l fun a_4 =>
        Sts [.string snap] (a_4.add 5) 0 w5 fun w6 =>
        Pn l fun a_5 =>
        Sts [.int .i64 idx] (a_5.add 6) 0 w6 fun w7 =>
        R (0 : Int) w7)))) = kstep Tryz.prog 89 Tryz.f158.results.toList (Tryz.f158.body.getD .skip) (rlog_Log_Install.RV R) (kvc Tryz.prog 89 Tryz.f158.results.toList (Tryz.f158.body.getD .skip) (rlog_Log_Install.RV R) [] 2000) [(0, [1, 1, 1, 1, 1, 0, 1]), (0, [1, 1, 1, 1, 1, 1])] [(0, .pointer l), (1, .int .i64 idx), (2, .int .i64 term), (3, .string snap), (46, .bool t46)] w := by kernel_rfl
theorem rlog_Log_Install.B2_sound {R : Int → World → Prop}  (l : Option Addr) (idx term : Int) (snap : ByteArray) (t46 : Bool) (w : World) (h : rlog_Log_Install.B2 l idx term snap t46 w   R) :
    KW Tryz.prog 158 89 (rlog_Log_Install.RV R) ([(0, [1, 1, 1, 1, 1, 0, 1]), (0, [1, 1, 1, 1, 1, 1])].map (toItem (Tryz.f158.body.getD .skip))) [(0, .pointer l), (1, .int .i64 idx), (2, .int .i64 term), (3, .string snap), (46, .bool t46)] w := by
  exact block_spec Tryz.func158 Tryz.mixed stops_nil (Eq.mp (rlog_Log_Install.B2_eq l idx term snap t46 w   R ) h)
def rlog_Log_Install.B1 (l : Option Addr) (idx term : Int) (snap : ByteArray) (t24 : Bool) (w : World)   (R : Int → World → Prop) : Prop :=
  Bm t24 (
    R (1 : Int) w) (
    Bm (decide (((snap.size : Nat) : Int) > (128 : Int))) (
      R (5 : Int) w) (
      Pn l fun a =>
      LdI .i64 (a.add 3) w fun x32 =>
      Bm (decide (idx ≤ x32)) (
        R (7 : Int) w) (
        rlog_Log_TermAt.Call l idx w fun r37_0 r37_1 w1 =>
        Bm (r37_1 == (0 : Int)) (
          rlog_Log_Install.B2 l idx term snap (r37_0 == term) w1  R) (
          rlog_Log_Install.B2 l idx term snap false w1  R))))
theorem rlog_Log_Install.B1_eq (l : Option Addr) (idx term : Int) (snap : ByteArray) (t24 : Bool) (w : World)   (R : Int → World → Prop) (sB2 : Option Addr → Int → Int → ByteArray → Bool → World → Prop) :
    (
  Bm t24 (
    R (1 : Int) w) (
    Bm (decide (((snap.size : Nat) : Int) > (128 : Int))) (
      R (5 : Int) w) (
      Pn l fun a =>
      LdI .i64 (a.add 3) w fun x32 =>
      Bm (decide (idx ≤ x32)) (
        R (7 : Int) w) (
        rlog_Log_TermAt.Call l idx w fun r37_0 r37_1 w1 =>
        Bm (r37_1 == (0 : Int)) (
          sB2 l idx term snap (r37_0 == term) w1) (
          sB2 l idx term snap false w1))))) = kstep Tryz.prog 89 Tryz.f158.results.toList (Tryz.f158.body.getD .skip) (rlog_Log_Install.RV R) (kvc Tryz.prog 89 Tryz.f158.results.toList (Tryz.f158.body.getD .skip) (rlog_Log_Install.RV R) [([(0, [1, 1, 1, 1, 1, 0, 1]), (0, [1, 1, 1, 1, 1, 1])], fun σ w => dP (slotOf σ 0) fun l_ => dI .i64 (slotOf σ 1) fun idx_ => dI .i64 (slotOf σ 2) fun term_ => dS (slotOf σ 3) fun snap_ => dB (slotOf σ 46) fun t46_ => sB2 l_ idx_ term_ snap_ t46_ w)] 2000) [(0, [1, 0, 1]), (0, [1, 1])] [(0, .pointer l), (1, .int .i64 idx), (2, .int .i64 term), (3, .string snap), (24, .bool t24)] w := by kernel_rfl
theorem rlog_Log_Install.B1_sound {R : Int → World → Prop}  (l : Option Addr) (idx term : Int) (snap : ByteArray) (t24 : Bool) (w : World) (h : rlog_Log_Install.B1 l idx term snap t24 w   R) :
    KW Tryz.prog 158 89 (rlog_Log_Install.RV R) ([(0, [1, 0, 1]), (0, [1, 1])].map (toItem (Tryz.f158.body.getD .skip))) [(0, .pointer l), (1, .int .i64 idx), (2, .int .i64 term), (3, .string snap), (24, .bool t24)] w := by
  exact block_spec Tryz.func158 Tryz.mixed (stops_cons (fun σ w h => by
      obtain ⟨l_, e0, h⟩ := dP_elim h
      obtain ⟨idx_, e1, h⟩ := dI_elim h
      obtain ⟨term_, e2, h⟩ := dI_elim h
      obtain ⟨snap_, e3, h⟩ := dS_elim h
      obtain ⟨t46_, e4, h⟩ := dB_elim h
      exact (rlog_Log_Install.B2_sound  l_ idx_ term_ snap_ t46_ w h).weaken (Sub.cons (Sub.cons (Sub.cons (Sub.cons (Sub.cons (Sub.nil _) e4) e3) e2) e1) e0)) stops_nil) (Eq.mp (rlog_Log_Install.B1_eq l idx term snap t24 w   R (fun l_ idx_ term_ snap_ t46_ w => rlog_Log_Install.B2 l_ idx_ term_ snap_ t46_ w  R)) h)
def rlog_Log_Install.B0 (l : Option Addr) (idx term : Int) (snap : ByteArray) (w : World)   (R : Int → World → Prop) : Prop :=
  Bm (decide (idx < (0 : Int))) (
    rlog_Log_Install.B1 l idx term snap true w  R) (
    Bm (decide (idx > (72057594037927936 : Int))) (
      rlog_Log_Install.B1 l idx term snap true w  R) (
      Bm (decide (term < (0 : Int))) (
        rlog_Log_Install.B1 l idx term snap true w  R) (
        rlog_Log_Install.B1 l idx term snap (decide (term > (72057594037927936 : Int))) w  R)))
theorem rlog_Log_Install.B0_eq (l : Option Addr) (idx term : Int) (snap : ByteArray) (w : World)   (R : Int → World → Prop) (sB1 : Option Addr → Int → Int → ByteArray → Bool → World → Prop) :
    (
  Bm (decide (idx < (0 : Int))) (
    sB1 l idx term snap true w) (
    Bm (decide (idx > (72057594037927936 : Int))) (
      sB1 l idx term snap true w) (
      Bm (decide (term < (0 : Int))) (
        sB1 l idx term snap true w) (
        sB1 l idx term snap (decide (term > (72057594037927936 : Int))) w)))) = kstep Tryz.prog 89 Tryz.f158.results.toList (Tryz.f158.body.getD .skip) (rlog_Log_Install.RV R) (kvc Tryz.prog 89 Tryz.f158.results.toList (Tryz.f158.body.getD .skip) (rlog_Log_Install.RV R) [([(0, [1, 0, 1]), (0, [1, 1])], fun σ w => dP (slotOf σ 0) fun l_ => dI .i64 (slotOf σ 1) fun idx_ => dI .i64 (slotOf σ 2) fun term_ => dS (slotOf σ 3) fun snap_ => dB (slotOf σ 24) fun t24_ => sB1 l_ idx_ term_ snap_ t24_ w)] 2000) [(0, [])] [(0, .pointer l), (1, .int .i64 idx), (2, .int .i64 term), (3, .string snap)] w := by kernel_rfl
theorem rlog_Log_Install.B0_sound {R : Int → World → Prop}  (l : Option Addr) (idx term : Int) (snap : ByteArray) (w : World) (h : rlog_Log_Install.B0 l idx term snap w   R) :
    KW Tryz.prog 158 89 (rlog_Log_Install.RV R) ([(0, [])].map (toItem (Tryz.f158.body.getD .skip))) [(0, .pointer l), (1, .int .i64 idx), (2, .int .i64 term), (3, .string snap)] w := by
  exact block_spec Tryz.func158 Tryz.mixed (stops_cons (fun σ w h => by
      obtain ⟨l_, e0, h⟩ := dP_elim h
      obtain ⟨idx_, e1, h⟩ := dI_elim h
      obtain ⟨term_, e2, h⟩ := dI_elim h
      obtain ⟨snap_, e3, h⟩ := dS_elim h
      obtain ⟨t24_, e4, h⟩ := dB_elim h
      exact (rlog_Log_Install.B1_sound  l_ idx_ term_ snap_ t24_ w h).weaken (Sub.cons (Sub.cons (Sub.cons (Sub.cons (Sub.cons (Sub.nil _) e4) e3) e2) e1) e0)) stops_nil) (Eq.mp (rlog_Log_Install.B0_eq l idx term snap w   R (fun l_ idx_ term_ snap_ t24_ w => rlog_Log_Install.B1 l_ idx_ term_ snap_ t24_ w  R)) h)
theorem rlog_Log_Install.sound (l : Option Addr) (idx term : Int) (snap : ByteArray) (w : World) (R : Int → World → Prop) (h : rlog_Log_Install.B0 l idx term snap w R) : rlog_Log_Install.Call l idx term snap w R := by
  have hc := calls_of_block (args := #[.pointer l, .int .i64 idx, .int .i64 term, .string snap]) Tryz.func158 (body := (Tryz.f158.body.getD .skip)) (by kernel_rfl) (by kernel_rfl) (args_slot _) (rlog_Log_Install.B0_sound l idx term snap w h)
  exact hc.mono fun e w' he => by
    obtain ⟨v, rfl, hv⟩ := he
    exact rlog_Log_Install.RV_elim hv
def elect_Elect_See.B1 (e : Option Addr) (term : Int) (t15 : Bool) (w : World)   (R : Bool → World → Prop) : Prop :=
  Bm t15 (
    R false w) (
    elect_Elect_Role.Call e w fun r17 w1 =>
    elect_turn.Call r17 (1 : Int) w1 fun r19 w2 =>
    Pn e fun a =>
    Sts [.int .i64 term] (a.add 1) 0 w2 fun w3 =>
    Pn e fun a_1 =>
    Sts [.int .i64 (0 : Int)] (a_1.add 3) 0 w3 fun w4 =>
    elect_Elect_put.Call e r19 (-1 : Int) (-1 : Int) w4 fun w5 =>
    R true w5)
theorem elect_Elect_See.B1_eq (e : Option Addr) (term : Int) (t15 : Bool) (w : World)   (R : Bool → World → Prop)  :
    (
  Bm t15 (
    R false w) (
    elect_Elect_Role.Call e w fun r17 w1 =>
    elect_turn.Call r17 (1 : Int) w1 fun r19 w2 =>
    Pn e fun a =>
    Sts [.int .i64 term] (a.add 1) 0 w2 fun w3 =>
    Pn e fun a_1 =>
    Sts [.int .i64 (0 : Int)] (a_1.add 3) 0 w3 fun w4 =>
    elect_Elect_put.Call e r19 (-1 : Int) (-1 : Int) w4 fun w5 =>
    R true w5)) = kstep Tryz.prog 30 Tryz.f159.results.toList (Tryz.f159.body.getD .skip) (elect_Elect_See.RV R) (kvc Tryz.prog 30 Tryz.f159.results.toList (Tryz.f159.body.getD .skip) (elect_Elect_See.RV R) [] 2000) [(0, [1, 0, 1]), (0, [1, 1])] [(0, .pointer e), (1, .int .i64 term), (15, .bool t15)] w := by kernel_rfl
theorem elect_Elect_See.B1_sound {R : Bool → World → Prop}  (e : Option Addr) (term : Int) (t15 : Bool) (w : World) (h : elect_Elect_See.B1 e term t15 w   R) :
    KW Tryz.prog 159 30 (elect_Elect_See.RV R) ([(0, [1, 0, 1]), (0, [1, 1])].map (toItem (Tryz.f159.body.getD .skip))) [(0, .pointer e), (1, .int .i64 term), (15, .bool t15)] w := by
  exact block_spec Tryz.func159 Tryz.mixed stops_nil (Eq.mp (elect_Elect_See.B1_eq e term t15 w   R ) h)
def elect_Elect_See.B0 (e : Option Addr) (term : Int) (w : World)   (R : Bool → World → Prop) : Prop :=
  Pn e fun a =>
  LdI .i64 (a.add 1) w fun x10 =>
  Bm (decide (term ≤ x10)) (
    elect_Elect_See.B1 e term true w  R) (
    elect_Elect_See.B1 e term (decide (term > (72057594037927936 : Int))) w  R)
theorem elect_Elect_See.B0_eq (e : Option Addr) (term : Int) (w : World)   (R : Bool → World → Prop) (sB1 : Option Addr → Int → Bool → World → Prop) :
    (
  Pn e fun a =>
  LdI .i64 (a.add 1) w fun x10 =>
  Bm (decide (term ≤ x10)) (
    sB1 e term true w) (
    sB1 e term (decide (term > (72057594037927936 : Int))) w)) = kstep Tryz.prog 30 Tryz.f159.results.toList (Tryz.f159.body.getD .skip) (elect_Elect_See.RV R) (kvc Tryz.prog 30 Tryz.f159.results.toList (Tryz.f159.body.getD .skip) (elect_Elect_See.RV R) [([(0, [1, 0, 1]), (0, [1, 1])], fun σ w => dP (slotOf σ 0) fun e_ => dI .i64 (slotOf σ 1) fun term_ => dB (slotOf σ 15) fun t15_ => sB1 e_ term_ t15_ w)] 2000) [(0, [])] [(0, .pointer e), (1, .int .i64 term)] w := by kernel_rfl
theorem elect_Elect_See.B0_sound {R : Bool → World → Prop}  (e : Option Addr) (term : Int) (w : World) (h : elect_Elect_See.B0 e term w   R) :
    KW Tryz.prog 159 30 (elect_Elect_See.RV R) ([(0, [])].map (toItem (Tryz.f159.body.getD .skip))) [(0, .pointer e), (1, .int .i64 term)] w := by
  exact block_spec Tryz.func159 Tryz.mixed (stops_cons (fun σ w h => by
      obtain ⟨e_, e0, h⟩ := dP_elim h
      obtain ⟨term_, e1, h⟩ := dI_elim h
      obtain ⟨t15_, e2, h⟩ := dB_elim h
      exact (elect_Elect_See.B1_sound  e_ term_ t15_ w h).weaken (Sub.cons (Sub.cons (Sub.cons (Sub.nil _) e2) e1) e0)) stops_nil) (Eq.mp (elect_Elect_See.B0_eq e term w   R (fun e_ term_ t15_ w => elect_Elect_See.B1 e_ term_ t15_ w  R)) h)
theorem elect_Elect_See.sound (e : Option Addr) (term : Int) (w : World) (R : Bool → World → Prop) (h : elect_Elect_See.B0 e term w R) : elect_Elect_See.Call e term w R := by
  have hc := calls_of_block (args := #[.pointer e, .int .i64 term]) Tryz.func159 (body := (Tryz.f159.body.getD .skip)) (by kernel_rfl) (by kernel_rfl) (args_slot _) (elect_Elect_See.B0_sound e term w h)
  exact hc.mono fun e w' he => by
    obtain ⟨v, rfl, hv⟩ := he
    exact elect_Elect_See.RV_elim hv
def sync_Sync_acked.B2 (s : Option Addr) (p : Int) (w : World)   (R : World → Prop) : Prop :=
  sync_Sync_advance.Call s w fun w1 =>
  Pn s fun a =>
  (0 ≤ p ∧ p < ((3 : Nat) : Int)) ∧
  LdI .i64 (Addr.add (a.add 3) (p.toNat * 1)) w1.drew fun x50 =>
  Pn s fun a_1 =>
  LdI .i64 (a_1.add 9) w1.drew fun x54 =>
  Bm (decide (x50 ≤ x54)) (
    sync_Sync_send.Call s p w1.drew fun w2 =>
    R  w2) (
    R  w1.drew)
theorem sync_Sync_acked.B2_eq (s : Option Addr) (p : Int) (w : World)   (R : World → Prop)  :
    (
  sync_Sync_advance.Call s w fun w1 =>
  Pn s fun a =>
  (0 ≤ p ∧ p < ((3 : Nat) : Int)) ∧
  LdI .i64 (Addr.add (a.add 3) (p.toNat * 1)) w1.drew fun x50 =>
  Pn s fun a_1 =>
  LdI .i64 (a_1.add 9) w1.drew fun x54 =>
  Bm (decide (x50 ≤ x54)) (
    sync_Sync_send.Call s p w1.drew fun w2 =>
    R  w2) (
    R  w1.drew)) = kstep Tryz.prog 59 Tryz.f160.results.toList (Tryz.f160.body.getD .skip) (sync_Sync_acked.RV R) (kvc Tryz.prog 59 Tryz.f160.results.toList (Tryz.f160.body.getD .skip) (sync_Sync_acked.RV R) [] 2000) [(0, [1, 1, 1])] [(0, .pointer s), (1, .int .i64 p)] w := by kernel_rfl
theorem sync_Sync_acked.B2_sound {R : World → Prop}  (s : Option Addr) (p : Int) (w : World) (h : sync_Sync_acked.B2 s p w   R) :
    KW Tryz.prog 160 59 (sync_Sync_acked.RV R) ([(0, [1, 1, 1])].map (toItem (Tryz.f160.body.getD .skip))) [(0, .pointer s), (1, .int .i64 p)] w := by
  exact block_spec Tryz.func160 Tryz.mixed stops_nil (Eq.mp (sync_Sync_acked.B2_eq s p w   R ) h)
def sync_Sync_acked.B1 (s : Option Addr) (p index : Int) (t21 : Bool) (w : World)   (R : World → Prop) : Prop :=
  Bm t21 (
    R  w) (
    Pn s fun a =>
    (0 ≤ p ∧ p < ((3 : Nat) : Int)) ∧
    Sts [.int .i64 index] (Addr.add (a.add 6) (p.toNat * 1)) 0 w fun w1 =>
    Pn s fun a_1 =>
    (0 ≤ p ∧ p < ((3 : Nat) : Int)) ∧
    LdI .i64 (Addr.add (a_1.add 3) (p.toNat * 1)) w1 fun x33 =>
    Bm (decide (x33 ≤ index)) (
      Pn s fun a_2 =>
      (0 ≤ p ∧ p < ((3 : Nat) : Int)) ∧
      Sts [.int .i64 (IntKind.i64.wrap (index + (1 : Int)))] (Addr.add (a_2.add 3) (p.toNat * 1)) 0 w1 fun w2 =>
      sync_Sync_acked.B2 s p w2  R) (
      sync_Sync_acked.B2 s p w1  R))
theorem sync_Sync_acked.B1_eq (s : Option Addr) (p index : Int) (t21 : Bool) (w : World)   (R : World → Prop) (sB2 : Option Addr → Int → World → Prop) :
    (
  Bm t21 (
    R  w) (
    Pn s fun a =>
    (0 ≤ p ∧ p < ((3 : Nat) : Int)) ∧
    Sts [.int .i64 index] (Addr.add (a.add 6) (p.toNat * 1)) 0 w fun w1 =>
    Pn s fun a_1 =>
    (0 ≤ p ∧ p < ((3 : Nat) : Int)) ∧
    LdI .i64 (Addr.add (a_1.add 3) (p.toNat * 1)) w1 fun x33 =>
    Bm (decide (x33 ≤ index)) (
      Pn s fun a_2 =>
      (0 ≤ p ∧ p < ((3 : Nat) : Int)) ∧
      Sts [.int .i64 (IntKind.i64.wrap (index + (1 : Int)))] (Addr.add (a_2.add 3) (p.toNat * 1)) 0 w1 fun w2 =>
      sB2 s p w2) (
      sB2 s p w1))) = kstep Tryz.prog 59 Tryz.f160.results.toList (Tryz.f160.body.getD .skip) (sync_Sync_acked.RV R) (kvc Tryz.prog 59 Tryz.f160.results.toList (Tryz.f160.body.getD .skip) (sync_Sync_acked.RV R) [([(0, [1, 1, 1])], fun σ w => dP (slotOf σ 0) fun s_ => dI .i64 (slotOf σ 1) fun p_ => sB2 s_ p_ w)] 2000) [(0, [0, 1]), (0, [1])] [(0, .pointer s), (1, .int .i64 p), (2, .int .i64 index), (21, .bool t21)] w := by kernel_rfl
theorem sync_Sync_acked.B1_sound {R : World → Prop}  (s : Option Addr) (p index : Int) (t21 : Bool) (w : World) (h : sync_Sync_acked.B1 s p index t21 w   R) :
    KW Tryz.prog 160 59 (sync_Sync_acked.RV R) ([(0, [0, 1]), (0, [1])].map (toItem (Tryz.f160.body.getD .skip))) [(0, .pointer s), (1, .int .i64 p), (2, .int .i64 index), (21, .bool t21)] w := by
  exact block_spec Tryz.func160 Tryz.mixed (stops_cons (fun σ w h => by
      obtain ⟨s_, e0, h⟩ := dP_elim h
      obtain ⟨p_, e1, h⟩ := dI_elim h
      exact (sync_Sync_acked.B2_sound  s_ p_ w h).weaken (Sub.cons (Sub.cons (Sub.nil _) e1) e0)) stops_nil) (Eq.mp (sync_Sync_acked.B1_eq s p index t21 w   R (fun s_ p_ w => sync_Sync_acked.B2 s_ p_ w  R)) h)
def sync_Sync_acked.B0 (s : Option Addr) (p index : Int) (w : World)   (R : World → Prop) : Prop :=
  Pn s fun a =>
  (0 ≤ p ∧ p < ((3 : Nat) : Int)) ∧
  LdI .i64 (Addr.add (a.add 6) (p.toNat * 1)) w fun x12 =>
  Bm (decide (index ≤ x12)) (
    sync_Sync_acked.B1 s p index true w  R) (
    Pn s fun a_1 =>
    LdI .i64 (a_1.add 9) w fun x19 =>
    sync_Sync_acked.B1 s p index (decide (index > x19)) w  R)
theorem sync_Sync_acked.B0_eq (s : Option Addr) (p index : Int) (w : World)   (R : World → Prop) (sB1 : Option Addr → Int → Int → Bool → World → Prop) :
    (
  Pn s fun a =>
  (0 ≤ p ∧ p < ((3 : Nat) : Int)) ∧
  LdI .i64 (Addr.add (a.add 6) (p.toNat * 1)) w fun x12 =>
  Bm (decide (index ≤ x12)) (
    sB1 s p index true w) (
    Pn s fun a_1 =>
    LdI .i64 (a_1.add 9) w fun x19 =>
    sB1 s p index (decide (index > x19)) w)) = kstep Tryz.prog 59 Tryz.f160.results.toList (Tryz.f160.body.getD .skip) (sync_Sync_acked.RV R) (kvc Tryz.prog 59 Tryz.f160.results.toList (Tryz.f160.body.getD .skip) (sync_Sync_acked.RV R) [([(0, [0, 1]), (0, [1])], fun σ w => dP (slotOf σ 0) fun s_ => dI .i64 (slotOf σ 1) fun p_ => dI .i64 (slotOf σ 2) fun index_ => dB (slotOf σ 21) fun t21_ => sB1 s_ p_ index_ t21_ w)] 2000) [(0, [])] [(0, .pointer s), (1, .int .i64 p), (2, .int .i64 index)] w := by kernel_rfl
theorem sync_Sync_acked.B0_sound {R : World → Prop}  (s : Option Addr) (p index : Int) (w : World) (h : sync_Sync_acked.B0 s p index w   R) :
    KW Tryz.prog 160 59 (sync_Sync_acked.RV R) ([(0, [])].map (toItem (Tryz.f160.body.getD .skip))) [(0, .pointer s), (1, .int .i64 p), (2, .int .i64 index)] w := by
  exact block_spec Tryz.func160 Tryz.mixed (stops_cons (fun σ w h => by
      obtain ⟨s_, e0, h⟩ := dP_elim h
      obtain ⟨p_, e1, h⟩ := dI_elim h
      obtain ⟨index_, e2, h⟩ := dI_elim h
      obtain ⟨t21_, e3, h⟩ := dB_elim h
      exact (sync_Sync_acked.B1_sound  s_ p_ index_ t21_ w h).weaken (Sub.cons (Sub.cons (Sub.cons (Sub.cons (Sub.nil _) e3) e2) e1) e0)) stops_nil) (Eq.mp (sync_Sync_acked.B0_eq s p index w   R (fun s_ p_ index_ t21_ w => sync_Sync_acked.B1 s_ p_ index_ t21_ w  R)) h)
theorem sync_Sync_acked.sound (s : Option Addr) (p index : Int) (w : World) (R : World → Prop) (h : sync_Sync_acked.B0 s p index w R) : sync_Sync_acked.Call s p index w R := by
  have hc := calls_of_block (args := #[.pointer s, .int .i64 p, .int .i64 index]) Tryz.func160 (body := (Tryz.f160.body.getD .skip)) (by kernel_rfl) (by kernel_rfl) (args_slot _) (sync_Sync_acked.B0_sound s p index w h)
  exact hc.mono fun e w' he => by
    obtain ⟨v, rfl, hv⟩ := he
    exact sync_Sync_acked.RV_elim hv
def sync_Sync_refused.B1 (s : Option Addr) (p n : Int) (w : World)   (R : World → Prop) : Prop :=
  Pn s fun a =>
  (0 ≤ p ∧ p < ((3 : Nat) : Int)) ∧
  LdI .i64 (Addr.add (a.add 3) (p.toNat * 1)) w fun x30 =>
  Bm (decide (n < x30)) (
    Pn s fun a_1 =>
    (0 ≤ p ∧ p < ((3 : Nat) : Int)) ∧
    Sts [.int .i64 n] (Addr.add (a_1.add 3) (p.toNat * 1)) 0 w fun w1 =>
    sync_Sync_send.Call s p w1 fun w2 =>
    R  w2) (
    R  w)
theorem sync_Sync_refused.B1_eq (s : Option Addr) (p n : Int) (w : World)   (R : World → Prop)  :
    (
  Pn s fun a =>
  (0 ≤ p ∧ p < ((3 : Nat) : Int)) ∧
  LdI .i64 (Addr.add (a.add 3) (p.toNat * 1)) w fun x30 =>
  Bm (decide (n < x30)) (
    Pn s fun a_1 =>
    (0 ≤ p ∧ p < ((3 : Nat) : Int)) ∧
    Sts [.int .i64 n] (Addr.add (a_1.add 3) (p.toNat * 1)) 0 w fun w1 =>
    sync_Sync_send.Call s p w1 fun w2 =>
    R  w2) (
    R  w)) = kstep Tryz.prog 41 Tryz.f161.results.toList (Tryz.f161.body.getD .skip) (sync_Sync_refused.RV R) (kvc Tryz.prog 41 Tryz.f161.results.toList (Tryz.f161.body.getD .skip) (sync_Sync_refused.RV R) [] 2000) [(0, [1, 1])] [(0, .pointer s), (1, .int .i64 p), (6, .int .i64 n)] w := by kernel_rfl
theorem sync_Sync_refused.B1_sound {R : World → Prop}  (s : Option Addr) (p n : Int) (w : World) (h : sync_Sync_refused.B1 s p n w   R) :
    KW Tryz.prog 161 41 (sync_Sync_refused.RV R) ([(0, [1, 1])].map (toItem (Tryz.f161.body.getD .skip))) [(0, .pointer s), (1, .int .i64 p), (6, .int .i64 n)] w := by
  exact block_spec Tryz.func161 Tryz.mixed stops_nil (Eq.mp (sync_Sync_refused.B1_eq s p n w   R ) h)
def sync_Sync_refused.B0 (s : Option Addr) (p index : Int) (w : World)   (R : World → Prop) : Prop :=
  Pn s fun a =>
  (0 ≤ p ∧ p < ((3 : Nat) : Int)) ∧
  LdI .i64 (Addr.add (a.add 6) (p.toNat * 1)) w fun x15 =>
  Bm (decide ((IntKind.i64.wrap (index + (1 : Int))) ≤ x15)) (
    Pn s fun a_1 =>
    (0 ≤ p ∧ p < ((3 : Nat) : Int)) ∧
    LdI .i64 (Addr.add (a_1.add 6) (p.toNat * 1)) w fun x22 =>
    sync_Sync_refused.B1 s p (IntKind.i64.wrap (x22 + (1 : Int))) w  R) (
    sync_Sync_refused.B1 s p (IntKind.i64.wrap (index + (1 : Int))) w  R)
theorem sync_Sync_refused.B0_eq (s : Option Addr) (p index : Int) (w : World)   (R : World → Prop) (sB1 : Option Addr → Int → Int → World → Prop) :
    (
  Pn s fun a =>
  (0 ≤ p ∧ p < ((3 : Nat) : Int)) ∧
  LdI .i64 (Addr.add (a.add 6) (p.toNat * 1)) w fun x15 =>
  Bm (decide ((IntKind.i64.wrap (index + (1 : Int))) ≤ x15)) (
    Pn s fun a_1 =>
    (0 ≤ p ∧ p < ((3 : Nat) : Int)) ∧
    LdI .i64 (Addr.add (a_1.add 6) (p.toNat * 1)) w fun x22 =>
    sB1 s p (IntKind.i64.wrap (x22 + (1 : Int))) w) (
    sB1 s p (IntKind.i64.wrap (index + (1 : Int))) w)) = kstep Tryz.prog 41 Tryz.f161.results.toList (Tryz.f161.body.getD .skip) (sync_Sync_refused.RV R) (kvc Tryz.prog 41 Tryz.f161.results.toList (Tryz.f161.body.getD .skip) (sync_Sync_refused.RV R) [([(0, [1, 1])], fun σ w => dP (slotOf σ 0) fun s_ => dI .i64 (slotOf σ 1) fun p_ => dI .i64 (slotOf σ 6) fun n_ => sB1 s_ p_ n_ w)] 2000) [(0, [])] [(0, .pointer s), (1, .int .i64 p), (2, .int .i64 index)] w := by kernel_rfl
theorem sync_Sync_refused.B0_sound {R : World → Prop}  (s : Option Addr) (p index : Int) (w : World) (h : sync_Sync_refused.B0 s p index w   R) :
    KW Tryz.prog 161 41 (sync_Sync_refused.RV R) ([(0, [])].map (toItem (Tryz.f161.body.getD .skip))) [(0, .pointer s), (1, .int .i64 p), (2, .int .i64 index)] w := by
  exact block_spec Tryz.func161 Tryz.mixed (stops_cons (fun σ w h => by
      obtain ⟨s_, e0, h⟩ := dP_elim h
      obtain ⟨p_, e1, h⟩ := dI_elim h
      obtain ⟨n_, e2, h⟩ := dI_elim h
      exact (sync_Sync_refused.B1_sound  s_ p_ n_ w h).weaken (Sub.cons (Sub.cons (Sub.cons (Sub.nil _) e2) e1) e0)) stops_nil) (Eq.mp (sync_Sync_refused.B0_eq s p index w   R (fun s_ p_ n_ w => sync_Sync_refused.B1 s_ p_ n_ w  R)) h)
theorem sync_Sync_refused.sound (s : Option Addr) (p index : Int) (w : World) (R : World → Prop) (h : sync_Sync_refused.B0 s p index w R) : sync_Sync_refused.Call s p index w R := by
  have hc := calls_of_block (args := #[.pointer s, .int .i64 p, .int .i64 index]) Tryz.func161 (body := (Tryz.f161.body.getD .skip)) (by kernel_rfl) (by kernel_rfl) (args_slot _) (sync_Sync_refused.B0_sound s p index w h)
  exact hc.mono fun e w' he => by
    obtain ⟨v, rfl, hv⟩ := he
    exact sync_Sync_refused.RV_elim hv
def electm_Elect_peer.B0 (e : Option Addr) (p : Int) (w : World)   (R : Bool → World → Prop) : Prop :=
  Bm (decide (p ≥ (0 : Int))) (
    Bm (decide (p < (3 : Int))) (
      Pn e fun a =>
      LdI .i64 a w fun x16 =>
      R (p != x16) w) (
      R false w)) (
    R false w)
theorem electm_Elect_peer.B0_eq (e : Option Addr) (p : Int) (w : World)   (R : Bool → World → Prop)  :
    (
  Bm (decide (p ≥ (0 : Int))) (
    Bm (decide (p < (3 : Int))) (
      Pn e fun a =>
      LdI .i64 a w fun x16 =>
      R (p != x16) w) (
      R false w)) (
    R false w)) = kstep Tryz.prog 19 Tryz.f162.results.toList (Tryz.f162.body.getD .skip) (electm_Elect_peer.RV R) (kvc Tryz.prog 19 Tryz.f162.results.toList (Tryz.f162.body.getD .skip) (electm_Elect_peer.RV R) [] 2000) [(0, [])] [(0, .pointer e), (1, .int .i64 p)] w := by kernel_rfl
theorem electm_Elect_peer.B0_sound {R : Bool → World → Prop}  (e : Option Addr) (p : Int) (w : World) (h : electm_Elect_peer.B0 e p w   R) :
    KW Tryz.prog 162 19 (electm_Elect_peer.RV R) ([(0, [])].map (toItem (Tryz.f162.body.getD .skip))) [(0, .pointer e), (1, .int .i64 p)] w := by
  exact block_spec Tryz.func162 Tryz.mixed stops_nil (Eq.mp (electm_Elect_peer.B0_eq e p w   R ) h)
theorem electm_Elect_peer.sound (e : Option Addr) (p : Int) (w : World) (R : Bool → World → Prop) (h : electm_Elect_peer.B0 e p w R) : electm_Elect_peer.Call e p w R := by
  have hc := calls_of_block (args := #[.pointer e, .int .i64 p]) Tryz.func162 (body := (Tryz.f162.body.getD .skip)) (by kernel_rfl) (by kernel_rfl) (args_slot _) (electm_Elect_peer.B0_sound e p w h)
  exact hc.mono fun e w' he => by
    obtain ⟨v, rfl, hv⟩ := he
    exact electm_Elect_peer.RV_elim hv
def rlogm_Log_step.B0 (l : Option Addr) (w : World)   (R : World → Prop) : Prop :=
  Pn l fun a =>
  LdP a w fun x6 =>
  rlogm_state_clone.Call x6 w fun r7 w1 =>
  Pn l fun a_1 =>
  LdL (a_1.add 2) w1 fun x12_b x12_l x12_c =>
  New (.cells #[.pointer r7] 140) w1 fun b14 w2 =>
  Append 140 (.pointer none) 1 8 x12_b x12_l x12_c (some ⟨b14, 0, none⟩) 1 w2 fun b15 c15 w3 =>
  Pn l fun a_2 =>
  Sts [.slice b15 (x12_l + 1) c15] (a_2.add 2) 0 w3 fun w4 =>
  R  w4
theorem rlogm_Log_step.B0_eq (l : Option Addr) (w : World)   (R : World → Prop)  :
    (
  Pn l fun a =>
  LdP a w fun x6 =>
  rlogm_state_clone.Call x6 w fun r7 w1 =>
  Pn l fun a_1 =>
  LdL (a_1.add 2) w1 fun x12_b x12_l x12_c =>
  New (.cells #[.pointer r7] 140) w1 fun b14 w2 =>
  Append 140 (.pointer none) 1 8 x12_b x12_l x12_c (some ⟨b14, 0, none⟩) 1 w2 fun b15 c15 w3 =>
  Pn l fun a_2 =>
  Sts [.slice b15 (x12_l + 1) c15] (a_2.add 2) 0 w3 fun w4 =>
  R  w4) = kstep Tryz.prog 18 Tryz.f163.results.toList (Tryz.f163.body.getD .skip) (rlogm_Log_step.RV R) (kvc Tryz.prog 18 Tryz.f163.results.toList (Tryz.f163.body.getD .skip) (rlogm_Log_step.RV R) [] 2000) [(0, [])] [(0, .pointer l)] w := by kernel_rfl
theorem rlogm_Log_step.B0_sound {R : World → Prop}  (l : Option Addr) (w : World) (h : rlogm_Log_step.B0 l w   R) :
    KW Tryz.prog 163 18 (rlogm_Log_step.RV R) ([(0, [])].map (toItem (Tryz.f163.body.getD .skip))) [(0, .pointer l)] w := by
  exact block_spec Tryz.func163 Tryz.mixed stops_nil (Eq.mp (rlogm_Log_step.B0_eq l w   R ) h)
theorem rlogm_Log_step.sound (l : Option Addr) (w : World) (R : World → Prop) (h : rlogm_Log_step.B0 l w R) : rlogm_Log_step.Call l w R := by
  have hc := calls_of_block (args := #[.pointer l]) Tryz.func163 (body := (Tryz.f163.body.getD .skip)) (by kernel_rfl) (by kernel_rfl) (args_slot _) (rlogm_Log_step.B0_sound l w h)
  exact hc.mono fun e w' he => by
    obtain ⟨v, rfl, hv⟩ := he
    exact rlogm_Log_step.RV_elim hv
def rlogm_Log_TruncateFrom.L1b (l : Option Addr) (i : Int) (w : World)  (N1 : Option Addr → Int → World → Prop) (R : Int → World → Prop) : Prop :=
  rlogm_Log_Last.Call l w fun r15 w1 =>
  Bm (decide (r15 ≥ i)) (
    rlogm_Log_pop.Call l w1 fun w2 =>
    N1 l i w2) (
    R (0 : Int) w1)
theorem rlogm_Log_TruncateFrom.L1b_eq (l : Option Addr) (i : Int) (w : World)  (N1 : Option Addr → Int → World → Prop) (R : Int → World → Prop)  :
    (
  rlogm_Log_Last.Call l w fun r15 w1 =>
  Bm (decide (r15 ≥ i)) (
    rlogm_Log_pop.Call l w1 fun w2 =>
    N1 l i w2) (
    R (0 : Int) w1)) = kstep Tryz.prog 20 Tryz.f164.results.toList (Tryz.f164.body.getD .skip) (rlogm_Log_TruncateFrom.RV R) (kvc Tryz.prog 20 Tryz.f164.results.toList (Tryz.f164.body.getD .skip) (rlogm_Log_TruncateFrom.RV R) [([(0, [1, 1, 0, 0, 0]), (2, [1, 1, 0, 0, 0]), (1, [0]), (0, [1, 1, 1])], fun σ w => dP (slotOf σ 0) fun l_ => dI .i64 (slotOf σ 1) fun i_ => N1 l_ i_ w)] 2000) [(0, [1, 1, 0, 0, 0]), (2, [1, 1, 0, 0, 0]), (1, [0]), (0, [1, 1, 1])] [(0, .pointer l), (1, .int .i64 i)] w := by kernel_rfl
theorem rlogm_Log_TruncateFrom.L1b_sound {R : Int → World → Prop} {N1 : Option Addr → Int → World → Prop} (hN1 : ∀ l i w, N1 l i w → KW Tryz.prog 164 20 (rlogm_Log_TruncateFrom.RV R) ([(0, [1, 1, 0, 0, 0]), (2, [1, 1, 0, 0, 0]), (1, [0]), (0, [1, 1, 1])].map (toItem (Tryz.f164.body.getD .skip))) [(0, .pointer l), (1, .int .i64 i)] w) (l : Option Addr) (i : Int) (w : World) (h : rlogm_Log_TruncateFrom.L1b l i w  N1 R) :
    KW Tryz.prog 164 20 (rlogm_Log_TruncateFrom.RV R) ([(0, [1, 1, 0, 0, 0]), (2, [1, 1, 0, 0, 0]), (1, [0]), (0, [1, 1, 1])].map (toItem (Tryz.f164.body.getD .skip))) [(0, .pointer l), (1, .int .i64 i)] w := by
  exact block_spec Tryz.func164 Tryz.mixed (stops_cons (fun σ w h => by
      obtain ⟨l_, e0, h⟩ := dP_elim h
      obtain ⟨i_, e1, h⟩ := dI_elim h
      exact (hN1 l_ i_ w h).weaken (Sub.cons (Sub.cons (Sub.nil _) e1) e0)) stops_nil) (Eq.mp (rlogm_Log_TruncateFrom.L1b_eq l i w  N1 R ) h)
def rlogm_Log_TruncateFrom.L1 (l : Option Addr) (i : Int) (w : World)  (R : Int → World → Prop) : Prop :=
  ∃ (I : Nat → Option Addr → Int → World → Prop) (m : Nat), I m l i w ∧ ∀ m l i w, I m l i w → rlogm_Log_TruncateFrom.L1b l i w  (fun l' i' w' => ∃ m', m' < m ∧ I m' l' i' w') R
theorem rlogm_Log_TruncateFrom.L1_sound {R : Int → World → Prop}  (l : Option Addr) (i : Int) (w : World) (h : rlogm_Log_TruncateFrom.L1 l i w  R) :
    KW Tryz.prog 164 20 (rlogm_Log_TruncateFrom.RV R) ([(0, [1, 1, 0, 0, 0]), (2, [1, 1, 0, 0, 0]), (1, [0]), (0, [1, 1, 1])].map (toItem (Tryz.f164.body.getD .skip))) [(0, .pointer l), (1, .int .i64 i)] w := by
  obtain ⟨I, m, hBase, hr⟩ := h
  refine KW.loop (fun m σ w => ∃ (l : Option Addr) (i : Int), σ = [(0, .pointer l), (1, .int .i64 i)] ∧ I m l i w) ?_ m _ w ⟨l, i, rfl, hBase⟩
  rintro m ih σ w ⟨l, i, rfl, hI⟩
  exact rlogm_Log_TruncateFrom.L1b_sound  (N1 := fun l' i' w' => ∃ m', m' < m ∧ I m' l' i' w') (fun l' i' w' hx => by obtain ⟨m', hlt, hI'⟩ := hx; exact ih m' hlt _ w' ⟨l', i', rfl, hI'⟩) l i w (hr m l i w hI)
def rlogm_Log_TruncateFrom.B0 (l : Option Addr) (i : Int) (w : World)   (R : Int → World → Prop) : Prop :=
  Pn l fun a =>
  LdP a w fun x9 =>
  Pn x9 fun a_1 =>
  LdI .i64 (a_1.add 2) w fun x12 =>
  Bm (decide (i ≤ x12)) (
    R (7 : Int) w) (
    rlogm_Log_TruncateFrom.L1 l i w  R)
theorem rlogm_Log_TruncateFrom.B0_eq (l : Option Addr) (i : Int) (w : World)   (R : Int → World → Prop) (sL1 : Option Addr → Int → World → Prop) :
    (
  Pn l fun a =>
  LdP a w fun x9 =>
  Pn x9 fun a_1 =>
  LdI .i64 (a_1.add 2) w fun x12 =>
  Bm (decide (i ≤ x12)) (
    R (7 : Int) w) (
    sL1 l i w)) = kstep Tryz.prog 20 Tryz.f164.results.toList (Tryz.f164.body.getD .skip) (rlogm_Log_TruncateFrom.RV R) (kvc Tryz.prog 20 Tryz.f164.results.toList (Tryz.f164.body.getD .skip) (rlogm_Log_TruncateFrom.RV R) [([(0, [1, 1, 0, 0, 0]), (2, [1, 1, 0, 0, 0]), (1, [0]), (0, [1, 1, 1])], fun σ w => dP (slotOf σ 0) fun l_ => dI .i64 (slotOf σ 1) fun i_ => sL1 l_ i_ w)] 2000) [(0, [])] [(0, .pointer l), (1, .int .i64 i)] w := by kernel_rfl
theorem rlogm_Log_TruncateFrom.B0_sound {R : Int → World → Prop}  (l : Option Addr) (i : Int) (w : World) (h : rlogm_Log_TruncateFrom.B0 l i w   R) :
    KW Tryz.prog 164 20 (rlogm_Log_TruncateFrom.RV R) ([(0, [])].map (toItem (Tryz.f164.body.getD .skip))) [(0, .pointer l), (1, .int .i64 i)] w := by
  exact block_spec Tryz.func164 Tryz.mixed (stops_cons (fun σ w h => by
      obtain ⟨l_, e0, h⟩ := dP_elim h
      obtain ⟨i_, e1, h⟩ := dI_elim h
      exact (rlogm_Log_TruncateFrom.L1_sound  l_ i_ w h).weaken (Sub.cons (Sub.cons (Sub.nil _) e1) e0)) stops_nil) (Eq.mp (rlogm_Log_TruncateFrom.B0_eq l i w   R (fun l_ i_ w => rlogm_Log_TruncateFrom.L1 l_ i_ w  R)) h)
theorem rlogm_Log_TruncateFrom.sound (l : Option Addr) (i : Int) (w : World) (R : Int → World → Prop) (h : rlogm_Log_TruncateFrom.B0 l i w R) : rlogm_Log_TruncateFrom.Call l i w R := by
  have hc := calls_of_block (args := #[.pointer l, .int .i64 i]) Tryz.func164 (body := (Tryz.f164.body.getD .skip)) (by kernel_rfl) (by kernel_rfl) (args_slot _) (rlogm_Log_TruncateFrom.B0_sound l i w h)
  exact hc.mono fun e w' he => by
    obtain ⟨v, rfl, hv⟩ := he
    exact rlogm_Log_TruncateFrom.RV_elim hv
end Go.Proofs.Qxb6500433aGreat
