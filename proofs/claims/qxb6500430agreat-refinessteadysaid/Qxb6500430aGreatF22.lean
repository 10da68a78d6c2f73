import Derived.Test.Qxb6500430aGreatSig
set_option maxRecDepth 100000
set_option linter.unusedVariables false
open Go.Vc
namespace Go.Proofs.Qxb6500430aGreat
def node_Node_reply.B0 (n : Option Addr) (c a_0 : Int) (a_1 : ByteArray) (w : World)   (R : World → Prop) : Prop :=
  New (.cells #[.int .i64 a_0, .string a_1] 93) w fun a_ w1 =>
  Pn n fun a =>
  LdI .i64 (a.add 25) w1.drew fun x10 =>
  Pn n fun a_2 =>
  (0 ≤ c ∧ c < ((3 : Nat) : Int)) ∧
  LdI .i64 (Addr.add (a_2.add 7) (c.toNat * 1)) w1.drew fun x17 =>
  LdI .i64 ⟨a_, 0, none⟩ w1.drew fun x18_0 =>
  LdS ⟨a_, 1, none⟩ w1.drew fun x18_1 =>
  Pn n fun a_3 =>
  (0 ≤ x10 ∧ x10 < ((3 : Nat) : Int)) ∧
  Sts [.int .i64 c, .int .i64 x17, .int .i64 x18_0, .string x18_1] (Addr.add (a_3.add 13) (x10.toNat * 4)) 0 w1.drew fun w2 =>
  Pn n fun a_4 =>
  LdI .i64 (a_4.add 25) w2 fun x26 =>
  Pn n fun a_5 =>
  Sts [.int .i64 (IntKind.i64.wrap (x26 + (1 : Int)))] (a_5.add 25) 0 w2 fun w3 =>
  Pn n fun a_6 =>
  (0 ≤ c ∧ c < ((3 : Nat) : Int)) ∧
  Pn n fun a_7 =>
  Pn n fun a_8 =>
  Sts [.bool false] (Addr.add (a_6.add 4) (c.toNat * 1)) 0 w3.drew fun w4 =>
  (0 ≤ c ∧ c < ((3 : Nat) : Int)) ∧
  Sts [.int .i64 (0 : Int)] (Addr.add (a_7.add 7) (c.toNat * 1)) 0 w4 fun w5 =>
  (0 ≤ c ∧ c < ((3 : Nat) : Int)) ∧
  Sts [.int .i64 (0 : Int)] (Addr.add (a_8.add 10) (c.toNat * 1)) 0 w5 fun w6 =>
  R  w6
theorem node_Node_reply.B0_eq (n : Option Addr) (c a_0 : Int) (a_1 : ByteArray) (w : World)   (R : World → Prop)  :
    (
  New (.cells #[.int .i64 a_0, .string a_1] 93) w fun a_ w1 =>
  Pn n fun a =>
  LdI .i64 (a.add 25) w1.drew fun x10 =>
  Pn n fun a_2 =>
  (0 ≤ c ∧ c < ((3 : Nat) : Int)) ∧
  LdI .i64 (Addr.add (a_2.add 7) (c.toNat * 1)) w1.drew fun x17 =>
  LdI .i64 ⟨a_, 0, none⟩ w1.drew fun x18_0 =>
  LdS ⟨a_, 1, none⟩ w1.drew fun x18_1 =>
  Pn n fun a_3 =>
  (0 ≤ x10 ∧ x10 < ((3 : Nat) : Int)) ∧
  Sts [.int .i64 c, .int .i64 x17, .int .i64 x18_0, .string x18_1] (Addr.add (a_3.add 13) (x10.toNat * 4)) 0 w1.drew fun w2 =>
  Pn n fun a_4 =>
  LdI .i64 (a_4.add 25) w2 fun x26 =>
  Pn n fun a_5 =>
  Sts [.int .i64 (IntKind.i64.wrap (x26 + (1 : Int)))] (a_5.add 25) 0 w2 fun w3 =>
  Pn n fun a_6 =>
  (0 ≤ c ∧ c < ((3 : Nat) : Int)) ∧
  Pn n fun a_7 =>
  Pn n fun a_8 =>
  Sts [.bool false] (Addr.add (a_6.add 4) (c.toNat * 1)) 0 w3.drew fun w4 =>
  (0 ≤ c ∧ c < ((3 : Nat) : Int)) ∧
  Sts [.int .i64 (0 : Int)] (Addr.add (a_7.add 7) (c.toNat * 1)) 0 w4 fun w5 =>
  (0 ≤ c ∧ c < ((3 : Nat) : Int)) ∧
  Sts [.int .i64 (0 : Int)] (Addr.add (a_8.add 10) (c.toNat * 1)) 0 w5 fun w6 =>
  R  w6) = kstep Tryz.prog 45 Tryz.f226.results.toList (Tryz.f226.body.getD .skip) (node_Node_reply.RV R) (kvc Tryz.prog 45 Tryz.f226.results.toList (Tryz.f226.body.getD .skip) (node_Node_reply.RV R) [] 2000) [(0, [])] [(0, .pointer n), (1, .int .i64 c), (2, .agg #[.int .i64 a_0, .string a_1])] w := by kernel_rfl
theorem node_Node_reply.B0_sound {R : World → Prop}  (n : Option Addr) (c a_0 : Int) (a_1 : ByteArray) (w : World) (h : node_Node_reply.B0 n c a_0 a_1 w   R) :
    KW Tryz.prog 226 45 (node_Node_reply.RV R) ([(0, [])].map (toItem (Tryz.f226.body.getD .skip))) [(0, .pointer n), (1, .int .i64 c), (2, .agg #[.int .i64 a_0, .string a_1])] w := by
  exact block_spec Tryz.func226 Tryz.mixed stops_nil (Eq.mp (node_Node_reply.B0_eq n c a_0 a_1 w   R ) h)
theorem node_Node_reply.sound (n : Option Addr) (c a_0 : Int) (a_1 : ByteArray) (w : World) (R : World → Prop) (h : node_Node_reply.B0 n c a_0 a_1 w R) : node_Node_reply.Call n c a_0 a_1 w R := by
  have hc := calls_of_block (args := #[.pointer n, .int .i64 c, .agg #[.int .i64 a_0, .string a_1]]) Tryz.func226 (body := (Tryz.f226.body.getD .skip)) (by kernel_rfl) (by kernel_rfl) (args_slot _) (node_Node_reply.B0_sound n c a_0 a_1 w h)
  exact hc.mono fun e w' he => by
    obtain ⟨v, rfl, hv⟩ := he
    exact node_Node_reply.RV_elim hv
def node_mix.B0 (sum b : Int) (w : World)   (R : Int → World → Prop) : Prop :=
  R (IntKind.i64.wrap (BitVec.ofInt IntKind.i64.bits (IntKind.i64.wrap ((IntKind.i64.wrap ((IntKind.i64.wrap (sum * (31 : Int))) + (IntKind.i64.wrap b))) + (1 : Int))) &&& BitVec.ofInt IntKind.i64.bits (65535 : Int)).toNat) w
theorem node_mix.B0_eq (sum b : Int) (w : World)   (R : Int → World → Prop)  :
    (
  R (IntKind.i64.wrap (BitVec.ofInt IntKind.i64.bits (IntKind.i64.wrap ((IntKind.i64.wrap ((IntKind.i64.wrap (sum * (31 : Int))) + (IntKind.i64.wrap b))) + (1 : Int))) &&& BitVec.ofInt IntKind.i64.bits (65535 : Int)).toNat) w) = kstep Tryz.prog 12 Tryz.f227.results.toList (Tryz.f227.body.getD .skip) (node_mix.RV R) (kvc Tryz.prog 12 Tryz.f227.results.toList (Tryz.f227.body.getD .skip) (node_mix.RV R) [] 2000) [(0, [])] [(0, .int .i64 sum), (1, .int .u8 b)] w := by kernel_rfl
theorem node_mix.B0_sound {R : Int → World → Prop}  (sum b : Int) (w : World) (h : node_mix.B0 sum b w   R) :
    KW Tryz.prog 227 12 (node_mix.RV R) ([(0, [])].map (toItem (Tryz.f227.body.getD .skip))) [(0, .int .i64 sum), (1, .int .u8 b)] w := by
  exact block_spec Tryz.func227 Tryz.mixed stops_nil (Eq.mp (node_mix.B0_eq sum b w   R ) h)
theorem node_mix.sound (sum b : Int) (w : World) (R : Int → World → Prop) (h : node_mix.B0 sum b w R) : node_mix.Call sum b w R := by
  have hc := calls_of_block (args := #[.int .i64 sum, .int .u8 b]) Tryz.func227 (body := (Tryz.f227.body.getD .skip)) (by kernel_rfl) (by kernel_rfl) (args_slot _) (node_mix.B0_sound sum b w h)
  exact hc.mono fun e w' he => by
    obtain ⟨v, rfl, hv⟩ := he
    exact node_mix.RV_elim hv
def elect_Elect_AskedVote.B2 (e : Option Addr) (from0 : Int) (t43 : Bool) (w : World)   (R : Bool → World → Prop) : Prop :=
  Bm t43 (
    R false w) (
    elect_Elect_Role.Call e w fun r45 w1 =>
    elect_Elect_Leader.Call e w1 fun r47 w2 =>
    elect_Elect_put.Call e r45 from0 r47 w2 fun w3 =>
    elect_Elect_wind.Call e w3 fun w4 =>
    R true w4)
theorem elect_Elect_AskedVote.B2_eq (e : Option Addr) (from0 : Int) (t43 : Bool) (w : World)   (R : Bool → World → Prop)  :
    (
  Bm t43 (
    R false w) (
    elect_Elect_Role.Call e w fun r45 w1 =>
    elect_Elect_Leader.Call e w1 fun r47 w2 =>
    elect_Elect_put.Call e r45 from0 r47 w2 fun w3 =>
    elect_Elect_wind.Call e w3 fun w4 =>
    R true w4)) = kstep Tryz.prog 55 Tryz.f228.results.toList (Tryz.f228.body.getD .skip) (elect_Elect_AskedVote.RV R) (kvc Tryz.prog 55 Tryz.f228.results.toList (Tryz.f228.body.getD .skip) (elect_Elect_AskedVote.RV R) [] 2000) [(0, [1, 1, 1, 1, 0, 1]), (0, [1, 1, 1, 1, 1])] [(0, .pointer e), (1, .int .i64 from0), (43, .bool t43)] w := by kernel_rfl
theorem elect_Elect_AskedVote.B2_sound {R : Bool → World → Prop}  (e : Option Addr) (from0 : Int) (t43 : Bool) (w : World) (h : elect_Elect_AskedVote.B2 e from0 t43 w   R) :
    KW Tryz.prog 228 55 (elect_Elect_AskedVote.RV R) ([(0, [1, 1, 1, 1, 0, 1]), (0, [1, 1, 1, 1, 1])].map (toItem (Tryz.f228.body.getD .skip))) [(0, .pointer e), (1, .int .i64 from0), (43, .bool t43)] w := by
  exact block_spec Tryz.func228 Tryz.mixed stops_nil (Eq.mp (elect_Elect_AskedVote.B2_eq e from0 t43 w   R ) h)
def elect_Elect_AskedVote.B1 (e : Option Addr) (from0 term : Int) (upToDate t19 : Bool) (w : World)   (R : Bool → World → Prop) : Prop :=
  Bm t19 (
    R false w) (
    elect_Elect_See.Call e term w fun r22 w1 =>
    elect_Elect_Vote.Call e w1 fun r24 w2 =>
    Pn e fun a =>
    LdI .i64 (a.add 1) w2 fun x29 =>
    Bm (decide (term < x29)) (
      elect_Elect_AskedVote.B2 e from0 true w2  R) (
      Bm (!upToDate) (
        elect_Elect_AskedVote.B2 e from0 true w2  R) (
        Bm (r24 != (-1 : Int)) (
          elect_Elect_AskedVote.B2 e from0 (r24 != from0) w2  R) (
          elect_Elect_AskedVote.B2 e from0 false w2  R))))
theorem elect_Elect_AskedVote.B1_eq (e : Option Addr) (from0 term : Int) (upToDate t19 : Bool) (w : World)   (R : Bool → World → Prop) (sB2 : Option Addr → Int → Bool → World → Prop) :
    (
  Bm t19 (
    R false w) (
    elect_Elect_See.Call e term w fun r22 w1 =>
    elect_Elect_Vote.Call e w1 fun r24 w2 =>
    Pn e fun a =>
    LdI .i64 (a.add 1) w2 fun x29 =>
    Bm (decide (term < x29)) (
      sB2 e from0 true w2) (
      Bm (!upToDate) (
        sB2 e from0 true w2) (
        Bm (r24 != (-1 : Int)) (
          sB2 e from0 (r24 != from0) w2) (
          sB2 e from0 false w2))))) = kstep Tryz.prog 55 Tryz.f228.results.toList (Tryz.f228.body.getD .skip) (elect_Elect_AskedVote.RV R) (kvc Tryz.prog 55 Tryz.f228.results.toList (Tryz.f228.body.getD .skip) (elect_Elect_AskedVote.RV R) [([(0, [1, 1, 1, 1, 0, 1]), (0, [1, 1, 1, 1, 1])], fun σ w => dP (slotOf σ 0) fun e_ => dI .i64 (slotOf σ 1) fun from0_ => dB (slotOf σ 43) fun t43_ => sB2 e_ from0_ t43_ w)] 2000) [(0, [1, 0, 1]), (0, [1, 1])] [(0, .pointer e), (1, .int .i64 from0), (2, .int .i64 term), (3, .bool upToDate), (19, .bool t19)] w := by kernel_rfl
theorem elect_Elect_AskedVote.B1_sound {R : Bool → World → Prop}  (e : Option Addr) (from0 term : Int) (upToDate t19 : Bool) (w : World) (h : elect_Elect_AskedVote.B1 e from0 term upToDate t19 w   R) :
    KW Tryz.prog 228 55 (elect_Elect_AskedVote.RV R) ([(0, [1, 0, 1]), (0, [1, 1])].map (toItem (Tryz.f228.body.getD .skip))) [(0, .pointer e), (1, .int .i64 from0), (2, .int .i64 term), (3, .bool upToDate), (19, .bool t19)] w := by
  exact block_spec Tryz.func228 Tryz.mixed (stops_cons (fun σ w h => by
      obtain ⟨e_, e0, h⟩ := dP_elim h
      obtain ⟨from0_, e1, h⟩ := dI_elim h
      obtain ⟨t43_, e2, h⟩ := dB_elim h
      exact (elect_Elect_AskedVote.B2_sound  e_ from0_ t43_ w h).weaken (Sub.cons (Sub.cons (Sub.cons (Sub.nil _) e2) e1) e0)) stops_nil) (Eq.mp (elect_Elect_AskedVote.B1_eq e from0 term upToDate t19 w   R (fun e_ from0_ t43_ w => elect_Elect_AskedVote.B2 e_ from0_ t43_ w  R)) h)
def elect_Elect_AskedVote.B0 (e : Option Addr) (from0 term : Int) (upToDate : Bool) (w : World)   (R : Bool → World → Prop) : Prop :=
  elect_Elect_peer.Call e from0 w fun r14 w1 =>
  Bm (!r14) (
    elect_Elect_AskedVote.B1 e from0 term upToDate true w1  R) (
    elect_Elect_AskedVote.B1 e from0 term upToDate (decide (term > (72057594037927936 : Int))) w1  R)
theorem elect_Elect_AskedVote.B0_eq (e : Option Addr) (from0 term : Int) (upToDate : Bool) (w : World)   (R : Bool → World → Prop) (sB1 : Option Addr → Int → Int → Bool → Bool → World → Prop) :
    (
  elect_Elect_peer.Call e from0 w fun r14 w1 =>
  Bm (!r14) (
    sB1 e from0 term upToDate true w1) (
    sB1 e from0 term upToDate (decide (term > (72057594037927936 : Int))) w1)) = kstep Tryz.prog 55 Tryz.f228.results.toList (Tryz.f228.body.getD .skip) (elect_Elect_AskedVote.RV R) (kvc Tryz.prog 55 Tryz.f228.results.toList (Tryz.f228.body.getD .skip) (elect_Elect_AskedVote.RV R) [([(0, [1, 0, 1]), (0, [1, 1])], fun σ w => dP (slotOf σ 0) fun e_ => dI .i64 (slotOf σ 1) fun from0_ => dI .i64 (slotOf σ 2) fun term_ => dB (slotOf σ 3) fun upToDate_ => dB (slotOf σ 19) fun t19_ => sB1 e_ from0_ term_ upToDate_ t19_ w)] 2000) [(0, [])] [(0, .pointer e), (1, .int .i64 from0), (2, .int .i64 term), (3, .bool upToDate)] w := by kernel_rfl
theorem elect_Elect_AskedVote.B0_sound {R : Bool → World → Prop}  (e : Option Addr) (from0 term : Int) (upToDate : Bool) (w : World) (h : elect_Elect_AskedVote.B0 e from0 term upToDate w   R) :
    KW Tryz.prog 228 55 (elect_Elect_AskedVote.RV R) ([(0, [])].map (toItem (Tryz.f228.body.getD .skip))) [(0, .pointer e), (1, .int .i64 from0), (2, .int .i64 term), (3, .bool upToDate)] w := by
  exact block_spec Tryz.func228 Tryz.mixed (stops_cons (fun σ w h => by
      obtain ⟨e_, e0, h⟩ := dP_elim h
      obtain ⟨from0_, e1, h⟩ := dI_elim h
      obtain ⟨term_, e2, h⟩ := dI_elim h
      obtain ⟨upToDate_, e3, h⟩ := dB_elim h
      obtain ⟨t19_, e4, h⟩ := dB_elim h
      exact (elect_Elect_AskedVote.B1_sound  e_ from0_ term_ upToDate_ t19_ w h).weaken (Sub.cons (Sub.cons (Sub.cons (Sub.cons (Sub.cons (Sub.nil _) e4) e3) e2) e1) e0)) stops_nil) (Eq.mp (elect_Elect_AskedVote.B0_eq e from0 term upToDate w   R (fun e_ from0_ term_ upToDate_ t19_ w => elect_Elect_AskedVote.B1 e_ from0_ term_ upToDate_ t19_ w  R)) h)
theorem elect_Elect_AskedVote.sound (e : Option Addr) (from0 term : Int) (upToDate : Bool) (w : World) (R : Bool → World → Prop) (h : elect_Elect_AskedVote.B0 e from0 term upToDate w R) : elect_Elect_AskedVote.Call e from0 term upToDate w R := by
  have hc := calls_of_block (args := #[.pointer e, .int .i64 from0, .int .i64 term, .bool upToDate]) Tryz.func228 (body := (Tryz.f228.body.getD .skip)) (by kernel_rfl) (by kernel_rfl) (args_slot _) (elect_Elect_AskedVote.B0_sound e from0 term upToDate w h)
  exact hc.mono fun e w' he => by
    obtain ⟨v, rfl, hv⟩ := he
    exact elect_Elect_AskedVote.RV_elim hv
def sync_Sync_reply.B0 (s : Option Addr) (k p : Int) (ok : Bool) (index : Int) (w : World)   (R : World → Prop) : Prop :=
  Pn s fun a =>
  LdP (a.add 1) w fun x15 =>
  elect_Elect_Id.Call x15 w fun r16 w1 =>
  Pn s fun a_1 =>
  LdP (a_1.add 1) w1 fun x20 =>
  elect_Elect_Term.Call x20 w1 fun r21 w2 =>
  sync_Sync_post.Call s k r16 p r21 index (0 : Int) (0 : Int) ok none 0 0 (ByteArray.mk #[]) w2 fun w3 =>
  R  w3
theorem sync_Sync_reply.B0_eq (s : Option Addr) (k p : Int) (ok : Bool) (index : Int) (w : World)   (R : World → Prop)  :
    (
  Pn s fun a =>
  LdP (a.add 1) w fun x15 =>
  elect_Elect_Id.Call x15 w fun r16 w1 =>
  Pn s fun a_1 =>
  LdP (a_1.add 1) w1 fun x20 =>
  elect_Elect_Term.Call x20 w1 fun r21 w2 =>
  sync_Sync_post.Call s k r16 p r21 index (0 : Int) (0 : Int) ok none 0 0 (ByteArray.mk #[]) w2 fun w3 =>
  R  w3) = kstep Tryz.prog 31 Tryz.f229.results.toList (Tryz.f229.body.getD .skip) (sync_Sync_reply.RV R) (kvc Tryz.prog 31 Tryz.f229.results.toList (Tryz.f229.body.getD .skip) (sync_Sync_reply.RV R) [] 2000) [(0, [])] [(0, .pointer s), (1, .int .i64 k), (2, .int .i64 p), (3, .bool ok), (4, .int .i64 index)] w := by kernel_rfl
theorem sync_Sync_reply.B0_sound {R : World → Prop}  (s : Option Addr) (k p : Int) (ok : Bool) (index : Int) (w : World) (h : sync_Sync_reply.B0 s k p ok index w   R) :
    KW Tryz.prog 229 31 (sync_Sync_reply.RV R) ([(0, [])].map (toItem (Tryz.f229.body.getD .skip))) [(0, .pointer s), (1, .int .i64 k), (2, .int .i64 p), (3, .bool ok), (4, .int .i64 index)] w := by
  exact block_spec Tryz.func229 Tryz.mixed stops_nil (Eq.mp (sync_Sync_reply.B0_eq s k p ok index w   R ) h)
theorem sync_Sync_reply.sound (s : Option Addr) (k p : Int) (ok : Bool) (index : Int) (w : World) (R : World → Prop) (h : sync_Sync_reply.B0 s k p ok index w R) : sync_Sync_reply.Call s k p ok index w R := by
  have hc := calls_of_block (args := #[.pointer s, .int .i64 k, .int .i64 p, .bool ok, .int .i64 index]) Tryz.func229 (body := (Tryz.f229.body.getD .skip)) (by kernel_rfl) (by kernel_rfl) (args_slot _) (sync_Sync_reply.B0_sound s k p ok index w h)
  exact hc.mono fun e w' he => by
    obtain ⟨v, rfl, hv⟩ := he
    exact sync_Sync_reply.RV_elim hv
def elect_Elect_GotVote.B2 (e : Option Addr) (from0 role : Int) (t38 : Bool) (w : World)   (R : Bool → World → Prop) : Prop :=
  Bm t38 (
    R false w) (
    Pn e fun a =>
    LdI .i64 (a.add 3) w.drew fun x43 =>
    elect_bit.Call from0 w.drew fun r45 w1 =>
    w1.cell? (a.add 3) = some (.int .i64 x43) ∧
    Pn e fun a_1 =>
    Sts [.int .i64 (IntKind.i64.wrap (BitVec.ofInt IntKind.i64.bits x43 ||| BitVec.ofInt IntKind.i64.bits r45).toNat)] (a_1.add 3) 0 w1 fun w2 =>
    Pn e fun a_2 =>
    LdI .i64 (a_2.add 3) w2 fun x52 =>
    elect_count.Call x52 w2 fun r53 w3 =>
    Bm (decide (r53 < (2 : Int))) (
      R false w3) (
      elect_turn.Call role (3 : Int) w3 fun r56 w4 =>
      elect_Elect_Vote.Call e w4 fun r58 w5 =>
      Pn e fun a_3 =>
      LdI .i64 a_3 w5 fun x65 =>
      elect_Elect_put.Call e r56 r58 x65 w5 fun w6 =>
      elect_Elect_wind.Call e w6 fun w7 =>
      R true w7))
theorem elect_Elect_GotVote.B2_eq (e : Option Addr) (from0 role : Int) (t38 : Bool) (w : World)   (R : Bool → World → Prop)  :
    (
  Bm t38 (
    R false w) (
    Pn e fun a =>
    LdI .i64 (a.add 3) w.drew fun x43 =>
    elect_bit.Call from0 w.drew fun r45 w1 =>
    w1.cell? (a.add 3) = some (.int .i64 x43) ∧
    Pn e fun a_1 =>
    Sts [.int .i64 (IntKind.i64.wrap (BitVec.ofInt IntKind.i64.bits x43 ||| BitVec.ofInt IntKind.i64.bits r45).toNat)] (a_1.add 3) 0 w1 fun w2 =>
    Pn e fun a_2 =>
    LdI .i64 (a_2.add 3) w2 fun x52 =>
    elect_count.Call x52 w2 fun r53 w3 =>
    Bm (decide (r53 < (2 : Int))) (
      R false w3) (
      elect_turn.Call role (3 : Int) w3 fun r56 w4 =>
      elect_Elect_Vote.Call e w4 fun r58 w5 =>
      Pn e fun a_3 =>
      LdI .i64 a_3 w5 fun x65 =>
      elect_Elect_put.Call e r56 r58 x65 w5 fun w6 =>
      elect_Elect_wind.Call e w6 fun w7 =>
      R true w7))) = kstep Tryz.prog 69 Tryz.f230.results.toList (Tryz.f230.body.getD .skip) (elect_Elect_GotVote.RV R) (kvc Tryz.prog 69 Tryz.f230.results.toList (Tryz.f230.body.getD .skip) (elect_Elect_GotVote.RV R) [] 2000) [(0, [1, 1, 1, 1, 0, 1]), (0, [1, 1, 1, 1, 1])] [(0, .pointer e), (1, .int .i64 from0), (9, .int .i64 role), (38, .bool t38)] w := by kernel_rfl
theorem elect_Elect_GotVote.B2_sound {R : Bool → World → Prop}  (e : Option Addr) (from0 role : Int) (t38 : Bool) (w : World) (h : elect_Elect_GotVote.B2 e from0 role t38 w   R) :
    KW Tryz.prog 230 69 (elect_Elect_GotVote.RV R) ([(0, [1, 1, 1, 1, 0, 1]), (0, [1, 1, 1, 1, 1])].map (toItem (Tryz.f230.body.getD .skip))) [(0, .pointer e), (1, .int .i64 from0), (9, .int .i64 role), (38, .bool t38)] w := by
  exact block_spec Tryz.func230 Tryz.mixed stops_nil (Eq.mp (elect_Elect_GotVote.B2_eq e from0 role t38 w   R ) h)
def elect_Elect_GotVote.B1 (e : Option Addr) (from0 term : Int) (granted t18 : Bool) (w : World)   (R : Bool → World → Prop) : Prop :=
  Bm t18 (
    R false w) (
    elect_Elect_See.Call e term w fun r21 w1 =>
    Bm r21 (
      R false w1) (
      elect_Elect_Role.Call e w1 fun r23 w2 =>
      elect_turn.Call r23 (2 : Int) w2 fun r25 w3 =>
      Bm (decide (r25 < (0 : Int))) (
        elect_Elect_GotVote.B2 e from0 r23 true w3  R) (
        Pn e fun a =>
        LdI .i64 (a.add 1) w3 fun x32 =>
        Bm (decide (term < x32)) (
          elect_Elect_GotVote.B2 e from0 r23 true w3  R) (
          elect_Elect_GotVote.B2 e from0 r23 (!granted) w3  R))))
theorem elect_Elect_GotVote.B1_eq (e : Option Addr) (from0 term : Int) (granted t18 : Bool) (w : World)   (R : Bool → World → Prop) (sB2 : Option Addr → Int → Int → Bool → World → Prop) :
    (
  Bm t18 (
    R false w) (
    elect_Elect_See.Call e term w fun r21 w1 =>
    Bm r21 (
      R false w1) (
      elect_Elect_Role.Call e w1 fun r23 w2 =>
      elect_turn.Call r23 (2 : Int) w2 fun r25 w3 =>
      Bm (decide (r25 < (0 : Int))) (
        sB2 e from0 r23 true w3) (
        Pn e fun a =>
        LdI .i64 (a.add 1) w3 fun x32 =>
        Bm (decide (term < x32)) (
          sB2 e from0 r23 true w3) (
          sB2 e from0 r23 (!granted) w3))))) = kstep Tryz.prog 69 Tryz.f230.results.toList (Tryz.f230.body.getD .skip) (elect_Elect_GotVote.RV R) (kvc Tryz.prog 69 Tryz.f230.results.toList (Tryz.f230.body.getD .skip) (elect_Elect_GotVote.RV R) [([(0, [1, 1, 1, 1, 0, 1]), (0, [1, 1, 1, 1, 1])], fun σ w => dP (slotOf σ 0) fun e_ => dI .i64 (slotOf σ 1) fun from0_ => dI .i64 (slotOf σ 9) fun role_ => dB (slotOf σ 38) fun t38_ => sB2 e_ from0_ role_ t38_ w)] 2000) [(0, [1, 0, 1]), (0, [1, 1])] [(0, .pointer e), (1, .int .i64 from0), (2, .int .i64 term), (3, .bool granted), (18, .bool t18)] w := by kernel_rfl
theorem elect_Elect_GotVote.B1_sound {R : Bool → World → Prop}  (e : Option Addr) (from0 term : Int) (granted t18 : Bool) (w : World) (h : elect_Elect_GotVote.B1 e from0 term granted t18 w   R) :
    KW Tryz.prog 230 69 (elect_Elect_GotVote.RV R) ([(0, [1, 0, 1]), (0, [1, 1])].map (toItem (Tryz.f230.body.getD .skip))) [(0, .pointer e), (1, .int .i64 from0), (2, .int .i64 term), (3, .bool granted), (18, .bool t18)] w := by
  exact block_spec Tryz.func230 Tryz.mixed (stops_cons (fun σ w h => by
      obtain ⟨e_, e0, h⟩ := dP_elim h
      obtain ⟨from0_, e1, h⟩ := dI_elim h
      obtain ⟨role_, e2, h⟩ := dI_elim h
      obtain ⟨t38_, e3, h⟩ := dB_elim h
      exact (elect_Elect_GotVote.B2_sound  e_ from0_ role_ t38_ w h).weaken (Sub.cons (Sub.cons (Sub.cons (Sub.cons (Sub.nil _) e3) e2) e1) e0)) stops_nil) (Eq.mp (elect_Elect_GotVote.B1_eq e from0 term granted t18 w   R (fun e_ from0_ role_ t38_ w => elect_Elect_GotVote.B2 e_ from0_ role_ t38_ w  R)) h)
def elect_Elect_GotVote.B0 (e : Option Addr) (from0 term : Int) (granted : Bool) (w : World)   (R : Bool → World → Prop) : Prop :=
  elect_Elect_peer.Call e from0 w fun r13 w1 =>
  Bm (!r13) (
    elect_Elect_GotVote.B1 e from0 term granted true w1  R) (
    elect_Elect_GotVote.B1 e from0 term granted (decide (term > (72057594037927936 : Int))) w1  R)
theorem elect_Elect_GotVote.B0_eq (e : Option Addr) (from0 term : Int) (granted : Bool) (w : World)   (R : Bool → World → Prop) (sB1 : Option Addr → Int → Int → Bool → Bool → World → Prop) :
    (
  elect_Elect_peer.Call e from0 w fun r13 w1 =>
  Bm (!r13) (
    sB1 e from0 term granted true w1) (
    sB1 e from0 term granted (decide (term > (72057594037927936 : Int))) w1)) = kstep Tryz.prog 69 Tryz.f230.results.toList (Tryz.f230.body.getD .skip) (elect_Elect_GotVote.RV R) (kvc Tryz.prog 69 Tryz.f230.results.toList (Tryz.f230.body.getD .skip) (elect_Elect_GotVote.RV R) [([(0, [1, 0, 1]), (0, [1, 1])], fun σ w => dP (slotOf σ 0) fun e_ => dI .i64 (slotOf σ 1) fun from0_ => dI .i64 (slotOf σ 2) fun term_ => dB (slotOf σ 3) fun granted_ => dB (slotOf σ 18) fun t18_ => sB1 e_ from0_ term_ granted_ t18_ w)] 2000) [(0, [])] [(0, .pointer e), (1, .int .i64 from0), (2, .int .i64 term), (3, .bool granted)] w := by kernel_rfl
theorem elect_Elect_GotVote.B0_sound {R : Bool → World → Prop}  (e : Option Addr) (from0 term : Int) (granted : Bool) (w : World) (h : elect_Elect_GotVote.B0 e from0 term granted w   R) :
    KW Tryz.prog 230 69 (elect_Elect_GotVote.RV R) ([(0, [])].map (toItem (Tryz.f230.body.getD .skip))) [(0, .pointer e), (1, .int .i64 from0), (2, .int .i64 term), (3, .bool granted)] w := by
  exact block_spec Tryz.func230 Tryz.mixed (stops_cons (fun σ w h => by
      obtain ⟨e_, e0, h⟩ := dP_elim h
      obtain ⟨from0_, e1, h⟩ := dI_elim h
      obtain ⟨term_, e2, h⟩ := dI_elim h
      obtain ⟨granted_, e3, h⟩ := dB_elim h
      obtain ⟨t18_, e4, h⟩ := dB_elim h
      exact (elect_Elect_GotVote.B1_sound  e_ from0_ term_ granted_ t18_ w h).weaken (Sub.cons (Sub.cons (Sub.cons (Sub.cons (Sub.cons (Sub.nil _) e4) e3) e2) e1) e0)) stops_nil) (Eq.mp (elect_Elect_GotVote.B0_eq e from0 term granted w   R (fun e_ from0_ term_ granted_ t18_ w => elect_Elect_GotVote.B1 e_ from0_ term_ granted_ t18_ w  R)) h)
theorem elect_Elect_GotVote.sound (e : Option Addr) (from0 term : Int) (granted : Bool) (w : World) (R : Bool → World → Prop) (h : elect_Elect_GotVote.B0 e from0 term granted w R) : elect_Elect_GotVote.Call e from0 term granted w R := by
  have hc := calls_of_block (args := #[.pointer e, .int .i64 from0, .int .i64 term, .bool granted]) Tryz.func230 (body := (Tryz.f230.body.getD .skip)) (by kernel_rfl) (by kernel_rfl) (args_slot _) (elect_Elect_GotVote.B0_sound e from0 term granted w h)
  exact hc.mono fun e w' he => by
    obtain ⟨v, rfl, hv⟩ := he
    exact elect_Elect_GotVote.RV_elim hv
def elect_Elect_Heard.B2 (e : Option Addr) (from0 role : Int) (t33 : Bool) (w : World)   (R : Bool → World → Prop) : Prop :=
  Bm t33 (
    R false w) (
    elect_Elect_Vote.Call e w fun r35 w1 =>
    Pn e fun a =>
    Sts [.int .i64 (0 : Int)] (a.add 3) 0 w1 fun w2 =>
    elect_Elect_put.Call e role r35 from0 w2 fun w3 =>
    elect_Elect_wind.Call e w3 fun w4 =>
    R true w4)
theorem elect_Elect_Heard.B2_eq (e : Option Addr) (from0 role : Int) (t33 : Bool) (w : World)   (R : Bool → World → Prop)  :
    (
  Bm t33 (
    R false w) (
    elect_Elect_Vote.Call e w fun r35 w1 =>
    Pn e fun a =>
    Sts [.int .i64 (0 : Int)] (a.add 3) 0 w1 fun w2 =>
    elect_Elect_put.Call e role r35 from0 w2 fun w3 =>
    elect_Elect_wind.Call e w3 fun w4 =>
    R true w4)) = kstep Tryz.prog 46 Tryz.f231.results.toList (Tryz.f231.body.getD .skip) (elect_Elect_Heard.RV R) (kvc Tryz.prog 46 Tryz.f231.results.toList (Tryz.f231.body.getD .skip) (elect_Elect_Heard.RV R) [] 2000) [(0, [1, 1, 1, 1, 1, 0, 1]), (0, [1, 1, 1, 1, 1, 1])] [(0, .pointer e), (1, .int .i64 from0), (7, .int .i64 role), (33, .bool t33)] w := by kernel_rfl
theorem elect_Elect_Heard.B2_sound {R : Bool → World → Prop}  (e : Option Addr) (from0 role : Int) (t33 : Bool) (w : World) (h : elect_Elect_Heard.B2 e from0 role t33 w   R) :
    KW Tryz.prog 231 46 (elect_Elect_Heard.RV R) ([(0, [1, 1, 1, 1, 1, 0, 1]), (0, [1, 1, 1, 1, 1, 1])].map (toItem (Tryz.f231.body.getD .skip))) [(0, .pointer e), (1, .int .i64 from0), (7, .int .i64 role), (33, .bool t33)] w := by
  exact block_spec Tryz.func231 Tryz.mixed stops_nil (Eq.mp (elect_Elect_Heard.B2_eq e from0 role t33 w   R ) h)
def elect_Elect_Heard.B1 (e : Option Addr) (from0 term : Int) (t16 : Bool) (w : World)   (R : Bool → World → Prop) : Prop :=
  Bm t16 (
    R false w) (
    elect_Elect_See.Call e term w fun r19 w1 =>
    elect_Elect_Role.Call e w1 fun r21 w2 =>
    elect_turn.Call r21 (4 : Int) w2 fun r23 w3 =>
    Pn e fun a =>
    LdI .i64 (a.add 1) w3 fun x28 =>
    Bm (decide (term < x28)) (
      elect_Elect_Heard.B2 e from0 r23 true w3  R) (
      elect_Elect_Heard.B2 e from0 r23 (decide (r23 < (0 : Int))) w3  R))
theorem elect_Elect_Heard.B1_eq (e : Option Addr) (from0 term : Int) (t16 : Bool) (w : World)   (R : Bool → World → Prop) (sB2 : Option Addr → Int → Int → Bool → World → Prop) :
    (
  Bm t16 (
    R false w) (
    elect_Elect_See.Call e term w fun r19 w1 =>
    elect_Elect_Role.Call e w1 fun r21 w2 =>
    elect_turn.Call r21 (4 : Int) w2 fun r23 w3 =>
    Pn e fun a =>
    LdI .i64 (a.add 1) w3 fun x28 =>
    Bm (decide (term < x28)) (
      sB2 e from0 r23 true w3) (
      sB2 e from0 r23 (decide (r23 < (0 : Int))) w3))) = kstep Tryz.prog 46 Tryz.f231.results.toList (Tryz.f231.body.getD .skip) (elect_Elect_Heard.RV R) (kvc Tryz.prog 46 Tryz.f231.results.toList (Tryz.f231.body.getD .skip) (elect_Elect_Heard.RV R) [([(0, [1, 1, 1, 1, 1, 0, 1]), (0, [1, 1, 1, 1, 1, 1])], fun σ w => dP (slotOf σ 0) fun e_ => dI .i64 (slotOf σ 1) fun from0_ => dI .i64 (slotOf σ 7) fun role_ => dB (slotOf σ 33) fun t33_ => sB2 e_ from0_ role_ t33_ w)] 2000) [(0, [1, 0, 1]), (0, [1, 1])] [(0, .pointer e), (1, .int .i64 from0), (2, .int .i64 term), (16, .bool t16)] w := by kernel_rfl
theorem elect_Elect_Heard.B1_sound {R : Bool → World → Prop}  (e : Option Addr) (from0 term : Int) (t16 : Bool) (w : World) (h : elect_Elect_Heard.B1 e from0 term t16 w   R) :
    KW Tryz.prog 231 46 (elect_Elect_Heard.RV R) ([(0, [1, 0, 1]), (0, [1, 1])].map (toItem (Tryz.f231.body.getD .skip))) [(0, .pointer e), (1, .int .i64 from0), (2, .int .i64 term), (16, .bool t16)] w := by
  exact block_spec Tryz.func231 Tryz.mixed (stops_cons (fun σ w h => by
      obtain ⟨e_, e0, h⟩ := dP_elim h
      obtain ⟨from0_, e1, h⟩ := dI_elim h
      obtain ⟨role_, e2, h⟩ := dI_elim h
      obtain ⟨t33_, e3, h⟩ := dB_elim h
      exact (elect_Elect_Heard.B2_sound  e_ from0_ role_ t33_ w h).weaken (Sub.cons (Sub.cons (Sub.cons (Sub.cons (Sub.nil _) e3) e2) e1) e0)) stops_nil) (Eq.mp (elect_Elect_Heard.B1_eq e from0 term t16 w   R (fun e_ from0_ role_ t33_ w => elect_Elect_Heard.B2 e_ from0_ role_ t33_ w  R)) h)
def elect_Elect_Heard.B0 (e : Option Addr) (from0 term : Int) (w : World)   (R : Bool → World → Prop) : Prop :=
  elect_Elect_peer.Call e from0 w fun r11 w1 =>
  Bm (!r11) (
    elect_Elect_Heard.B1 e from0 term true w1  R) (
    elect_Elect_Heard.B1 e from0 term (decide (term > (72057594037927936 : Int))) w1  R)
theorem elect_Elect_Heard.B0_eq (e : Option Addr) (from0 term : Int) (w : World)   (R : Bool → World → Prop) (sB1 : Option Addr → Int → Int → Bool → World → Prop) :
    (
  elect_Elect_peer.Call e from0 w fun r11 w1 =>
  Bm (!r11) (
    sB1 e from0 term true w1) (
    sB1 e from0 term (decide (term > (72057594037927936 : Int))) w1)) = kstep Tryz.prog 46 Tryz.f231.results.toList (Tryz.f231.body.getD .skip) (elect_Elect_Heard.RV R) (kvc Tryz.prog 46 Tryz.f231.results.toList (Tryz.f231.body.getD .skip) (elect_Elect_Heard.RV R) [([(0, [1, 0, 1]), (0, [1, 1])], fun σ w => dP (slotOf σ 0) fun e_ => dI .i64 (slotOf σ 1) fun from0_ => dI .i64 (slotOf σ 2) fun term_ => dB (slotOf σ 16) fun t16_ => sB1 e_ from0_ term_ t16_ w)] 2000) [(0, [])] [(0, .pointer e), (1, .int .i64 from0), (2, .int .i64 term)] w := by kernel_rfl
theorem elect_Elect_Heard.B0_sound {R : Bool → World → Prop}  (e : Option Addr) (from0 term : Int) (w : World) (h : elect_Elect_Heard.B0 e from0 term w   R) :
    KW Tryz.prog 231 46 (elect_Elect_Heard.RV R) ([(0, [])].map (toItem (Tryz.f231.body.getD .skip))) [(0, .pointer e), (1, .int .i64 from0), (2, .int .i64 term)] w := by
  exact block_spec Tryz.func231 Tryz.mixed (stops_cons (fun σ w h => by
      obtain ⟨e_, e0, h⟩ := dP_elim h
      obtain ⟨from0_, e1, h⟩ := dI_elim h
      obtain ⟨term_, e2, h⟩ := dI_elim h
      obtain ⟨t16_, e3, h⟩ := dB_elim h
      exact (elect_Elect_Heard.B1_sound  e_ from0_ term_ t16_ w h).weaken (Sub.cons (Sub.cons (Sub.cons (Sub.cons (Sub.nil _) e3) e2) e1) e0)) stops_nil) (Eq.mp (elect_Elect_Heard.B0_eq e from0 term w   R (fun e_ from0_ term_ t16_ w => elect_Elect_Heard.B1 e_ from0_ term_ t16_ w  R)) h)
theorem elect_Elect_Heard.sound (e : Option Addr) (from0 term : Int) (w : World) (R : Bool → World → Prop) (h : elect_Elect_Heard.B0 e from0 term w R) : elect_Elect_Heard.Call e from0 term w R := by
  have hc := calls_of_block (args := #[.pointer e, .int .i64 from0, .int .i64 term]) Tryz.func231 (body := (Tryz.f231.body.getD .skip)) (by kernel_rfl) (by kernel_rfl) (args_slot _) (elect_Elect_Heard.B0_sound e from0 term w h)
  exact hc.mono fun e w' he => by
    obtain ⟨v, rfl, hv⟩ := he
    exact elect_Elect_Heard.RV_elim hv
def sync_Sync_accept.B2 (s : Option Addr) (matched c : Int) (w : World)   (R : Bool → Int → World → Prop) : Prop :=
  Pn s fun a =>
  LdI .i64 (a.add 2) w fun x81 =>
  Bm (decide (c > x81)) (
    Pn s fun a_1 =>
    Sts [.int .i64 c] (a_1.add 2) 0 w fun w1 =>
    R true matched w1) (
    R true matched w)
theorem sync_Sync_accept.B2_eq (s : Option Addr) (matched c : Int) (w : World)   (R : Bool → Int → World → Prop)  :
    (
  Pn s fun a =>
  LdI .i64 (a.add 2) w fun x81 =>
  Bm (decide (c > x81)) (
    Pn s fun a_1 =>
    Sts [.int .i64 c] (a_1.add 2) 0 w fun w1 =>
    R true matched w1) (
    R true matched w)) = kstep Tryz.prog 88 Tryz.f232.results.toList (Tryz.f232.body.getD .skip) (sync_Sync_accept.RV R) (kvc Tryz.prog 88 Tryz.f232.results.toList (Tryz.f232.body.getD .skip) (sync_Sync_accept.RV R) [] 2000) [(0, [1, 1, 1, 1, 1, 1, 1, 1, 1, 1, 1, 1])] [(0, .pointer s), (11, .int .i64 matched), (12, .int .i64 c)] w := by kernel_rfl
theorem sync_Sync_accept.B2_sound {R : Bool → Int → World → Prop}  (s : Option Addr) (matched c : Int) (w : World) (h : sync_Sync_accept.B2 s matched c w   R) :
    KW Tryz.prog 232 88 (sync_Sync_accept.RV R) ([(0, [1, 1, 1, 1, 1, 1, 1, 1, 1, 1, 1, 1])].map (toItem (Tryz.f232.body.getD .skip))) [(0, .pointer s), (11, .int .i64 matched), (12, .int .i64 c)] w := by
  exact block_spec Tryz.func232 Tryz.mixed stops_nil (Eq.mp (sync_Sync_accept.B2_eq s matched c w   R ) h)
def sync_Sync_accept.B1 (s : Option Addr) (m0 : Nat) (matched : Int) (w : World)   (R : Bool → Int → World → Prop) : Prop :=
  LdI .i64 ⟨m0, 6, none⟩ w fun x72 =>
  Bm (decide (x72 > matched)) (
    sync_Sync_accept.B2 s matched matched w  R) (
    sync_Sync_accept.B2 s matched x72 w  R)
theorem sync_Sync_accept.B1_eq (s : Option Addr) (m0 : Nat) (matched : Int) (w : World)   (R : Bool → Int → World → Prop) (sB2 : Option Addr → Int → Int → World → Prop) :
    (
  LdI .i64 ⟨m0, 6, none⟩ w fun x72 =>
  Bm (decide (x72 > matched)) (
    sB2 s matched matched w) (
    sB2 s matched x72 w)) = kstep Tryz.prog 88 Tryz.f232.results.toList (Tryz.f232.body.getD .skip) (sync_Sync_accept.RV R) (kvc Tryz.prog 88 Tryz.f232.results.toList (Tryz.f232.body.getD .skip) (sync_Sync_accept.RV R) [([(0, [1, 1, 1, 1, 1, 1, 1, 1, 1, 1, 1, 1])], fun σ w => dP (slotOf σ 0) fun s_ => dI .i64 (slotOf σ 11) fun matched_ => dI .i64 (slotOf σ 12) fun c_ => sB2 s_ matched_ c_ w)] 2000) [(0, [1, 1, 1, 1, 1, 1, 1, 1, 1, 1])] [(0, .pointer s), (3, .pointer (some ⟨m0, 0, none⟩)), (11, .int .i64 matched)] w := by kernel_rfl
theorem sync_Sync_accept.B1_sound {R : Bool → Int → World → Prop}  (s : Option Addr) (m0 : Nat) (matched : Int) (w : World) (h : sync_Sync_accept.B1 s m0 matched w   R) :
    KW Tryz.prog 232 88 (sync_Sync_accept.RV R) ([(0, [1, 1, 1, 1, 1, 1, 1, 1, 1, 1])].map (toItem (Tryz.f232.body.getD .skip))) [(0, .pointer s), (3, .pointer (some ⟨m0, 0, none⟩)), (11, .int .i64 matched)] w := by
  exact block_spec Tryz.func232 Tryz.mixed (stops_cons (fun σ w h => by
      obtain ⟨s_, e0, h⟩ := dP_elim h
      obtain ⟨matched_, e1, h⟩ := dI_elim h
      obtain ⟨c_, e2, h⟩ := dI_elim h
      exact (sync_Sync_accept.B2_sound  s_ matched_ c_ w h).weaken (Sub.cons (Sub.cons (Sub.cons (Sub.nil _) e2) e1) e0)) stops_nil) (Eq.mp (sync_Sync_accept.B1_eq s m0 matched w   R (fun s_ matched_ c_ w => sync_Sync_accept.B2 s_ matched_ c_ w  R)) h)
def sync_Sync_accept.B0 (s : Option Addr) (m0_0 m0_1 m0_2 m0_3 m0_4 m0_5 m0_6 : Int) (m0_7 : Bool) (m0_8_b : Option Addr) (m0_8_l m0_8_c : Nat) (m0_9 : ByteArray) (w : World)   (R : Bool → Int → World → Prop) : Prop :=
  New (.cells #[.int .i64 m0_0, .int .i64 m0_1, .int .i64 m0_2, .int .i64 m0_3, .int .i64 m0_4, .int .i64 m0_5, .int .i64 m0_6, .bool m0_7, .slice m0_8_b m0_8_l m0_8_c, .string m0_9] 101) w fun m0_ w1 =>
  LdI .i64 ⟨m0_, 4, none⟩ w1 fun x14 =>
  Pn s fun a =>
  LdP a w1 fun x18 =>
  rlog_Log_Base.Call x18 w1 fun r19 w2 =>
  Bm (decide (x14 < r19)) (
    R true r19 w2) (
    Pn s fun a_1 =>
    LdI .i64 (a_1.add 9) w2 fun x28 =>
    Bm (decide (x14 > x28)) (
      Pn s fun a_2 =>
      LdI .i64 (a_2.add 9) w2.drew fun x33 =>
      R false x33 w2.drew) (
      Pn s fun a_3 =>
      LdP a_3 w2 fun x38 =>
      rlog_Log_TermAt.Call x38 x14 w2 fun r40_0 r40_1 w3 =>
      LdI .i64 ⟨m0_, 5, none⟩ w3 fun x45 =>
      Bm (r40_0 != x45) (
        Bm (x14 == (0 : Int)) (
          R false (0 : Int) w3) (
          R false (IntKind.i64.wrap (x14 - (1 : Int))) w3)) (
        LdL ⟨m0_, 8, none⟩ w3 fun x54_b x54_l x54_c =>
        sync_Sync_agree.Call s x14 x54_b x54_l x54_c w3 fun r55 w4 =>
        LdL ⟨m0_, 8, none⟩ w4 fun x61_b x61_l x61_c =>
        Bm (decide (r55 < ((x61_l : Nat) : Int))) (
          LdL ⟨m0_, 8, none⟩ w4 fun x68_b x68_l x68_c =>
          sync_Sync_repair.Call s (IntKind.i64.wrap ((IntKind.i64.wrap (x14 + r55)) + (1 : Int))) x68_b x68_l x68_c r55 w4 fun r70 w5 =>
          sync_Sync_accept.B1 s m0_ r70 w5  R) (
          sync_Sync_accept.B1 s m0_ (IntKind.i64.wrap (x14 + r55)) w4  R))))
theorem sync_Sync_accept.B0_eq (s : Option Addr) (m0_0 m0_1 m0_2 m0_3 m0_4 m0_5 m0_6 : Int) (m0_7 : Bool) (m0_8_b : Option Addr) (m0_8_l m0_8_c : Nat) (m0_9 : ByteArray) (w : World)   (R : Bool → Int → World → Prop) (sB1 : Option Addr → Nat → Int → World → Prop) :
    (
  New (.cells #[.int .i64 m0_0, .int .i64 m0_1, .int .i64 m0_2, .int .i64 m0_3, .int .i64 m0_4, .int .i64 m0_5, .int .i64 m0_6, .bool m0_7, .slice m0_8_b m0_8_l m0_8_c, .string m0_9] 101) w fun m0_ w1 =>
  LdI .i64 ⟨m0_, 4, none⟩ w1 fun x14 =>
  Pn s fun a =>
  LdP a w1 fun x18 =>
  rlog_Log_Base.Call x18 w1 fun r19 w2 =>
  Bm (decide (x14 < r19)) (
    R true r19 w2) (
    Pn s fun a_1 =>
    LdI .i64 (a_1.add 9) w2 fun x28 =>
    Bm (decide (x14 > x28)) (
      Pn s fun a_2 =>
      LdI .i64 (a_2.add 9) w2.drew fun x33 =>
      R false x33 w2.drew) (
      Pn s fun a_3 =>
      LdP a_3 w2 fun x38 =>
      rlog_Log_TermAt.Call x38 x14 w2 fun r40_0 r40_1 w3 =>
      LdI .i64 ⟨m0_, 5, none⟩ w3 fun x45 =>
      Bm (r40_0 != x45) (
        Bm (x14 == (0 : Int)) (
          R false (0 : Int) w3) (
          R false (IntKind.i64.wrap (x14 - (1 : Int))) w3)) (
        LdL ⟨m0_, 8, none⟩ w3 fun x54_b x54_l x54_c =>
        sync_Sync_agree.Call s x14 x54_b x54_l x54_c w3 fun r55 w4 =>
        LdL ⟨m0_, 8, none⟩ w4 fun x61_b x61_l x61_c =>
        Bm (decide (r55 < ((x61_l : Nat) : Int))) (
          LdL ⟨m0_, 8, none⟩ w4 fun x68_b x68_l x68_c =>
          sync_Sync_repair.Call s (IntKind.i64.wrap ((IntKind.i64.wrap (x14 + r55)) + (1 : Int))) x68_b x68_l x68_c r55 w4 fun r70 w5 =>
          sB1 s m0_ r70 w5) (
          sB1 s m0_ (IntKind.i64.wrap (x14 + r55)) w4))))) = kstep Tryz.prog 88 Tryz.f232.results.toList (Tryz.f232.body.getD .skip) (sync_Sync_accept.RV R) (kvc Tryz.prog 88 Tryz.f232.results.toList (Tryz.f232.body.getD .skip) (sync_Sync_accept.RV R) [([(0, [1, 1, 1, 1, 1, 1, 1, 1, 1, 1])], fun σ w => dP (slotOf σ 0) fun s_ => dK (slotOf σ 3) fun m0_ => dI .i64 (slotOf σ 11) fun matched_ => sB1 s_ m0_ matched_ w)] 2000) [(0, [])] [(0, .pointer s), (1, .agg #[.int .i64 m0_0, .int .i64 m0_1, .int .i64 m0_2, .int .i64 m0_3, .int .i64 m0_4, .int .i64 m0_5, .int .i64 m0_6, .bool m0_7, .slice m0_8_b m0_8_l m0_8_c, .string m0_9])] w := by kernel_rfl
theorem sync_Sync_accept.B0_sound {R : Bool → Int → World → Prop}  (s : Option Addr) (m0_0 m0_1 m0_2 m0_3 m0_4 m0_5 m0_6 : Int) (m0_7 : Bool) (m0_8_b : Option Addr) (m0_8_l m0_8_c : Nat) (m0_9 : ByteArray) (w : World) (h : sync_Sync_accept.B0 s m0_0 m0_1 m0_2 m0_3 m0_4 m0_5 m0_6 m0_7 m0_8_b m0_8_l m0_8_c m0_9 w   R) :
    KW Tryz.prog 232 88 (sync_Sync_accept.RV R) ([(0, [])].map (toItem (Tryz.f232.body.getD .skip))) [(0, .pointer s), (1, .agg #[.int .i64 m0_0, .int .i64 m0_1, .int .i64 m0_2, .int .i64 m0_3, .int .i64 m0_4, .int .i64 m0_5, .int .i64 m0_6, .bool m0_7, .slice m0_8_b m0_8_l m0_8_c, .string m0_9])] w := by
  exact block_spec Tryz.func232 Tryz.mixed (stops_cons (fun σ w h => by
      obtain ⟨s_, e0, h⟩ := dP_elim h
      obtain ⟨m0_, e1, h⟩ := dK_elim h
      obtain ⟨matched_, e2, h⟩ := dI_elim h
      exact (sync_Sync_accept.B1_sound  s_ m0_ matched_ w h).weaken (Sub.cons (Sub.cons (Sub.cons (Sub.nil _) e2) e1) e0)) stops_nil) (Eq.mp (sync_Sync_accept.B0_eq s m0_0 m0_1 m0_2 m0_3 m0_4 m0_5 m0_6 m0_7 m0_8_b m0_8_l m0_8_c m0_9 w   R (fun s_ m0_ matched_ w => sync_Sync_accept.B1 s_ m0_ matched_ w  R)) h)
theorem sync_Sync_accept.sound (s : Option Addr) (m0_0 m0_1 m0_2 m0_3 m0_4 m0_5 m0_6 : Int) (m0_7 : Bool) (m0_8_b : Option Addr) (m0_8_l m0_8_c : Nat) (m0_9 : ByteArray) (w : World) (R : Bool → Int → World → Prop) (h : sync_Sync_accept.B0 s m0_0 m0_1 m0_2 m0_3 m0_4 m0_5 m0_6 m0_7 m0_8_b m0_8_l m0_8_c m0_9 w R) : sync_Sync_accept.Call s m0_0 m0_1 m0_2 m0_3 m0_4 m0_5 m0_6 m0_7 m0_8_b m0_8_l m0_8_c m0_9 w R := by
  have hc := calls_of_block (args := #[.pointer s, .agg #[.int .i64 m0_0, .int .i64 m0_1, .int .i64 m0_2, .int .i64 m0_3, .int .i64 m0_4, .int .i64 m0_5, .int .i64 m0_6, .bool m0_7, .slice m0_8_b m0_8_l m0_8_c, .string m0_9]]) Tryz.func232 (body := (Tryz.f232.body.getD .skip)) (by kernel_rfl) (by kernel_rfl) (args_slot _) (sync_Sync_accept.B0_sound s m0_0 m0_1 m0_2 m0_3 m0_4 m0_5 m0_6 m0_7 m0_8_b m0_8_l m0_8_c m0_9 w h)
  exact hc.mono fun e w' he => by
    obtain ⟨v, rfl, hv⟩ := he
    exact sync_Sync_accept.RV_elim hv
def rlog_Log_Install.B2 (l : Option Addr) (idx term : Int) (snap : ByteArray) (t46 : Bool) (w : World)   (R : Int → World → Prop) : Prop :=
  Bm t46 (
    rlog_Log_rebase.Call l idx term snap w fun r51 w1 =>
    R r51 w1) (
    Pn l fun a =>
    LdI .i64 (a.add 3) w fun x56 =>
    rlog_Log_dropFrom.Call l (IntKind.i64.wrap (x56 + (1 : Int))) w fun r58 w2 =>
    Bm (r58 != (0 : Int)) (
      R r58 w2) (
      Pn l fun a_1 =>
      LdP a_1 w2 fun x65 =>
      store_Store_SetSnap.Call x65 idx term snap w2 fun r69 w3 =>
      Bm (r69 != (0 : Int)) (
        R r69 w3) (
        Pn l fun a_2 =>
        Sts [.int .i64 idx] (a_2.add 3) 0 w3 fun w4 =>
        Pn l fun a_3 =>
        Sts [.int .i64 term] (a_3.add 4) 0 w4 fun w5 =>
        Pn l fun a_4 =>
        Sts [.string snap] (a_4.add 5) 0 w5 fun w6 =>
        Pn l fun a_5 =>
        Sts [.int .i64 idx] (a_5.add 6) 0 w6 fun w7 =>
        R (0 : Int) w7)))
theorem rlog_Log_Install.B2_eq (l : Option Addr) (idx term : Int) (snap : ByteArray) (t46 : Bool) (w : World)   (R : Int → World → Prop)  :
    (
  Bm t46 (
    rlog_Log_rebase.Call l idx term snap w fun r51 w1 =>
    R r51 w1) (
    Pn l fun a =>
    LdI .i64 (a.add 3) w fun x56 =>
    rlog_Log_dropFrom.Call l (IntKind.i64.wrap (x56 + (1 : Int))) w fun r58 w2 =>
    Bm (r58 != (0 : Int)) (
      R r58 w2) (
      Pn l fun a_1 =>
      LdP a_1 w2 fun x65 =>
      store_Store_SetSnap.Call x65 idx term snap w2 fun r69 w3 =>
      Bm (r69 != (0 : Int)) (
        R r69 w3) (
        Pn l fun a_2 =>
        Sts [.int .i64 idx] (a_2.add 3) 0 w3 fun w4 =>
        Pn l fun a_3 =>
        Sts [.int .i64 term] (a_3.add 4) 0 w4 fun w5 =>
        Pn l fun a_4 =>
        Sts [.string snap] (a_4.add 5) 0 w5 fun w6 =>
        Pn l fun a_5 =>
        Sts [.int .i64 idx] (a_5.add 6) 0 w6 fun w7 =>
        R (0 : Int) w7)))) = kstep Tryz.prog 89 Tryz.f233.results.toList (Tryz.f233.body.getD .skip) (rlog_Log_Install.RV R) (kvc Tryz.prog 89 Tryz.f233.results.toList (Tryz.f233.body.getD .skip) (rlog_Log_Install.RV R) [] 2000) [(0, [1, 1, 1, 1, 1, 0, 1]), (0, [1, 1, 1, 1, 1, 1])] [(0, .pointer l), (1, .int .i64 idx), (2, .int .i64 term), (3, .string snap), (46, .bool t46)] w := by kernel_rfl
theorem rlog_Log_Install.B2_sound {R : Int → World → Prop}  (l : Option Addr) (idx term : Int) (snap : ByteArray) (t46 : Bool) (w : World) (h : rlog_Log_Install.B2 l idx term snap t46 w   R) :
    KW Tryz.prog 233 89 (rlog_Log_Install.RV R) ([(0, [1, 1, 1, 1, 1, 0, 1]), (0, [1, 1, 1, 1, 1, 1])].map (toItem (Tryz.f233.body.getD .skip))) [(0, .pointer l), (1, .int .i64 idx), (2, .int .i64 term), (3, .string snap), (46, .bool t46)] w := by
  exact block_spec Tryz.func233 Tryz.mixed stops_nil (Eq.mp (rlog_Log_Install.B2_eq l idx term snap t46 w   R ) h)
def rlog_Log_Install.B1 (l : Option Addr) (idx term : Int) (snap : ByteArray) (t24 : Bool) (w : World)   (R : Int → World → Prop) : Prop :=
  Bm t24 (
    R (1 : Int) w) (
    Bm (decide (((snap.size : Nat) : Int) > (128 : Int))) (
      R (5 : Int) w) (
      Pn l fun a =>
      LdI .i64 (a.add 3) w fun x32 =>
      Bm (decide (idx ≤ x32)) (
        R (7 : Int) w) (
        rlog_Log_TermAt.Call l idx w fun r37_0 r37_1 w1 =>
        Bm (r37_1 == (0 : Int)) (
          rlog_Log_Install.B2 l idx term snap (r37_0 == term) w1  R) (
          rlog_Log_Install.B2 l idx term snap false w1  R))))
theorem rlog_Log_Install.B1_eq (l : Option Addr) (idx term : Int) (snap : ByteArray) (t24 : Bool) (w : World)   (R : Int → World → Prop) (sB2 : Option Addr → Int → Int → ByteArray → Bool → World → Prop) :
    (
  Bm t24 (
    R (1 : Int) w) (
    Bm (decide (((snap.size : Nat) : Int) > (128 : Int))) (
      R (5 : Int) w) (
      Pn l fun a =>
      LdI .i64 (a.add 3) w fun x32 =>
      Bm (decide (idx ≤ x32)) (
        R (7 : Int) w) (
        rlog_Log_TermAt.Call l idx w fun r37_0 r37_1 w1 =>
        Bm (r37_1 == (0 : Int)) (
          sB2 l idx term snap (r37_0 == term) w1) (
          sB2 l idx term snap false w1))))) = kstep Tryz.prog 89 Tryz.f233.results.toList (Tryz.f233.body.getD .skip) (rlog_Log_Install.RV R) (kvc Tryz.prog 89 Tryz.f233.results.toList (Tryz.f233.body.getD .skip) (rlog_Log_Install.RV R) [([(0, [1, 1, 1, 1, 1, 0, 1]), (0, [1, 1, 1, 1, 1, 1])], fun σ w => dP (slotOf σ 0) fun l_ => dI .i64 (slotOf σ 1) fun idx_ => dI .i64 (slotOf σ 2) fun term_ => dS (slotOf σ 3) fun snap_ => dB (slotOf σ 46) fun t46_ => sB2 l_ idx_ term_ snap_ t46_ w)] 2000) [(0, [1, 0, 1]), (0, [1, 1])] [(0, .pointer l), (1, .int .i64 idx), (2, .int .i64 term), (3, .string snap), (24, .bool t24)] w := by kernel_rfl
theorem rlog_Log_Install.B1_sound {R : Int → World → Prop}  (l : Option Addr) (idx term : Int) (snap : ByteArray) (t24 : Bool) (w : World) (h : rlog_Log_Install.B1 l idx term snap t24 w   R) :
    KW Tryz.prog 233 89 (rlog_Log_Install.RV R) ([(0, [1, 0, 1]), (0, [1, 1])].map (toItem (Tryz.f233.body.getD .skip))) [(0, .pointer l), (1, .int .i64 idx), (2, .int .i64 term), (3, .string snap), (24, .bool t24)] w := by
  exact block_spec Tryz.func233 Tryz.mixed (stops_cons (fun σ w h => by
      obtain ⟨l_, e0, h⟩ := dP_elim h
      obtain ⟨idx_, e1, h⟩ := dI_elim h
      obtain ⟨term_, e2, h⟩ := dI_elim h
      obtain ⟨snap_, e3, h⟩ := dS_elim h
      obtain ⟨t46_, e4, h⟩ := dB_elim h
      exact (rlog_Log_Install.B2_sound  l_ idx_ term_ snap_ t46_ w h).weaken (Sub.cons (Sub.cons (Sub.cons (Sub.cons (Sub.cons (Sub.nil _) e4) e3) e2) e1) e0)) stops_nil) (Eq.mp (rlog_Log_Install.B1_eq l idx term snap t24 w   R (fun l_ idx_ term_ snap_ t46_ w => rlog_Log_Install.B2 l_ idx_ term_ snap_ t46_ w  R)) h)
def rlog_Log_Install.B0 (l : Option Addr) (idx term : Int) (snap : ByteArray) (w : World)   (R : Int → World → Prop) : Prop :=
  Bm (decide (idx < (0 : Int))) (
    rlog_Log_Install.B1 l idx term snap true w  R) (
    Bm (decide (idx > (72057594037927936 : Int))) (
      rlog_Log_Install.B1 l idx term snap true w  R) (
      Bm (decide (term < (0 : Int))) (
        rlog_Log_Install.B1 l idx term snap true w  R) (
        rlog_Log_Install.B1 l idx term snap (decide (term > (72057594037927936 : Int))) w  R)))
theorem rlog_Log_Install.B0_eq (l : Option Addr) (idx term : Int) (snap : ByteArray) (w : World)   (R : Int → World → Prop) (sB1 : Option Addr → Int → Int → ByteArray → Bool → World → Prop) :
    (
  Bm (decide (idx < (0 : Int))) (
    sB1 l idx term snap true w) (
    Bm (decide (idx > (72057594037927936 : Int))) (
      sB1 l idx term snap true w) (
      Bm (decide (term < (0 : Int))) (
        sB1 l idx term snap true w) (
        sB1 l idx term snap (decide (term > (72057594037927936 : Int))) w)))) = kstep Tryz.prog 89 Tryz.f233.results.toList (Tryz.f233.body.getD .skip) (rlog_Log_Install.RV R) (kvc Tryz.prog 89 Tryz.f233.results.toList (Tryz.f233.body.getD .skip) (rlog_Log_Install.RV R) [([(0, [1, 0, 1]), (0, [1, 1])], fun σ w => dP (slotOf σ 0) fun l_ => dI .i64 (slotOf σ 1) fun idx_ => dI .i64 (slotOf σ 2) fun term_ => dS (slotOf σ 3) fun snap_ => dB (slotOf σ 24) fun t24_ => sB1 l_ idx_ term_ snap_ t24_ w)] 2000) [(0, [])] [(0, .pointer l), (1, .int .i64 idx), (2, .int .i64 term), (3, .string snap)] w := by kernel_rfl
theorem rlog_Log_Install.B0_sound {R : Int → World → Prop}  (l : Option Addr) (idx term : Int) (snap : ByteArray) (w : World) (h : rlog_Log_Install.B0 l idx term snap w   R) :
    KW Tryz.prog 233 89 (rlog_Log_Install.RV R) ([(0, [])].map (toItem (Tryz.f233.body.getD .skip))) [(0, .pointer l), (1, .int .i64 idx), (2, .int .i64 term), (3, .string snap)] w := by
  exact block_spec Tryz.func233 Tryz.mixed (stops_cons (fun σ w h => by
      obtain ⟨l_, e0, h⟩ := dP_elim h
      obtain ⟨idx_, e1, h⟩ := dI_elim h
      obtain ⟨term_, e2, h⟩ := dI_elim h
      obtain ⟨snap_, e3, h⟩ := dS_elim h
      obtain ⟨t24_, e4, h⟩ := dB_elim h
      exact (rlog_Log_Install.B1_sound  l_ idx_ term_ snap_ t24_ w h).weaken (Sub.cons (Sub.cons (Sub.cons (Sub.cons (Sub.cons (Sub.nil _) e4) e3) e2) e1) e0)) stops_nil) (Eq.mp (rlog_Log_Install.B0_eq l idx term snap w   R (fun l_ idx_ term_ snap_ t24_ w => rlog_Log_Install.B1 l_ idx_ term_ snap_ t24_ w  R)) h)
theorem rlog_Log_Install.sound (l : Option Addr) (idx term : Int) (snap : ByteArray) (w : World) (R : Int → World → Prop) (h : rlog_Log_Install.B0 l idx term snap w R) : rlog_Log_Install.Call l idx term snap w R := by
  have hc := calls_of_block (args := #[.pointer l, .int .i64 idx, .int .i64 term, .string snap]) Tryz.func233 (body := (Tryz.f233.body.getD .skip)) (by kernel_rfl) (by kernel_rfl) (args_slot _) (rlog_Log_Install.B0_sound l idx term snap w h)
  exact hc.mono fun e w' he => by
    obtain ⟨v, rfl, hv⟩ := he
    exact rlog_Log_Install.RV_elim hv
def elect_Elect_See.B1 (e : Option Addr) (term : Int) (t15 : Bool) (w : World)   (R : Bool → World → Prop) : Prop :=
  Bm t15 (
    R false w) (
    elect_Elect_Role.Call e w fun r17 w1 =>
    elect_turn.Call r17 (1 : Int) w1 fun r19 w2 =>
    Pn e fun a =>
    Sts [.int .i64 term] (a.add 1) 0 w2 fun w3 =>
    Pn e fun a_1 =>
    Sts [.int .i64 (0 : Int)] (a_1.add 3) 0 w3 fun w4 =>
    elect_Elect_put.Call e r19 (-1 : Int) (-1 : Int) w4 fun w5 =>
    R true w5)
theorem elect_Elect_See.B1_eq (e : Option Addr) (term : Int) (t15 : Bool) (w : World)   (R : Bool → World → Prop)  :
    (
  Bm t15 (
    R false w) (
    elect_Elect_Role.Call e w fun r17 w1 =>
    elect_turn.Call r17 (1 : Int) w1 fun r19 w2 =>
    Pn e fun a =>
    Sts [.int .i64 term] (a.add 1) 0 w2 fun w3 =>
    Pn e fun a_1 =>
    Sts [.int .i64 (0 : Int)] (a_1.add 3) 0 w3 fun w4 =>
    elect_Elect_put.Call e r19 (-1 : Int) (-1 : Int) w4 fun w5 =>
    R true w5)) = kstep Tryz.prog 30 Tryz.f234.results.toList (Tryz.f234.body.getD .skip) (elect_Elect_See.RV R) (kvc Tryz.prog 30 Tryz.f234.results.toList (Tryz.f234.body.getD .skip) (elect_Elect_See.RV R) [] 2000) [(0, [1, 0, 1]), (0, [1, 1])] [(0, .pointer e), (1, .int .i64 term), (15, .bool t15)] w := by kernel_rfl
theorem elect_Elect_See.B1_sound {R : Bool → World → Prop}  (e : Option Addr) (term : Int) (t15 : Bool) (w : World) (h : elect_Elect_See.B1 e term t15 w   R) :
    KW Tryz.prog 234 30 (elect_Elect_See.RV R) ([(0, [1, 0, 1]), (0, [1, 1])].map (toItem (Tryz.f234.body.getD .skip))) [(0, .pointer e), (1, .int .i64 term), (15, .bool t15)] w := by
  exact block_spec Tryz.func234 Tryz.mixed stops_nil (Eq.mp (elect_Elect_See.B1_eq e term t15 w   R ) h)
def elect_Elect_See.B0 (e : Option Addr) (term : Int) (w : World)   (R : Bool → World → Prop) : Prop :=
  Pn e fun a =>
  LdI .i64 (a.add 1) w fun x10 =>
  Bm (decide (term ≤ x10)) (
    elect_Elect_See.B1 e term true w  R) (
    elect_Elect_See.B1 e term (decide (term > (72057594037927936 : Int))) w  R)
theorem elect_Elect_See.B0_eq (e : Option Addr) (term : Int) (w : World)   (R : Bool → World → Prop) (sB1 : Option Addr → Int → Bool → World → Prop) :
    (
  Pn e fun a =>
  LdI .i64 (a.add 1) w fun x10 =>
  Bm (decide (term ≤ x10)) (
    sB1 e term true w) (
    sB1 e term (decide (term > (72057594037927936 : Int))) w)) = kstep Tryz.prog 30 Tryz.f234.results.toList (Tryz.f234.body.getD .skip) (elect_Elect_See.RV R) (kvc Tryz.prog 30 Tryz.f234.results.toList (Tryz.f234.body.getD .skip) (elect_Elect_See.RV R) [([(0, [1, 0, 1]), (0, [1, 1])], fun σ w => dP (slotOf σ 0) fun e_ => dI .i64 (slotOf σ 1) fun term_ => dB (slotOf σ 15) fun t15_ => sB1 e_ term_ t15_ w)] 2000) [(0, [])] [(0, .pointer e), (1, .int .i64 term)] w := by kernel_rfl
theorem elect_Elect_See.B0_sound {R : Bool → World → Prop}  (e : Option Addr) (term : Int) (w : World) (h : elect_Elect_See.B0 e term w   R) :
    KW Tryz.prog 234 30 (elect_Elect_See.RV R) ([(0, [])].map (toItem (Tryz.f234.body.getD .skip))) [(0, .pointer e), (1, .int .i64 term)] w := by
  exact block_spec Tryz.func234 Tryz.mixed (stops_cons (fun σ w h => by
      obtain ⟨e_, e0, h⟩ := dP_elim h
      obtain ⟨term_, e1, h⟩ := dI_elim h
      obtain ⟨t15_, e2, h⟩ := dB_elim h
      exact (elect_Elect_See.B1_sound  e_ term_ t15_ w h).weaken (Sub.cons (Sub.cons (Sub.cons (Sub.nil _) e2) e1) e0)) stops_nil) (Eq.mp (elect_Elect_See.B0_eq e term w   R (fun e_ term_ t15_ w => elect_Elect_See.B1 e_ term_ t15_ w  R)) h)
theorem elect_Elect_See.sound (e : Option Addr) (term : Int) (w : World) (R : Bool → World → Prop) (h : elect_Elect_See.B0 e term w R) : elect_Elect_See.Call e term w R := by
  have hc := calls_of_block (args := #[.pointer e, .int .i64 term]) Tryz.func234 (body := (Tryz.f234.body.getD .skip)) (by kernel_rfl) (by kernel_rfl) (args_slot _) (elect_Elect_See.B0_sound e term w h)
  exact hc.mono fun e w' he => by
    obtain ⟨v, rfl, hv⟩ := he
    exact elect_Elect_See.RV_elim hv
def sync_Sync_acked.B2 (s : Option Addr) (p : Int) (w : World)   (R : World → Prop) : Prop :=
  sync_Sync_advance.Call s w fun w1 =>
  Pn s fun a =>
  (0 ≤ p ∧ p < ((3 : Nat) : Int)) ∧
  LdI .i64 (Addr.add (a.add 3) (p.toNat * 1)) w1.drew fun x50 =>
  Pn s fun a_1 =>
  LdI .i64 (a_1.add 9) w1.drew fun x54 =>
  Bm (decide (x50 ≤ x54)) (
    sync_Sync_send.Call s p w1.drew fun w2 =>
    R  w2) (
    R  w1.drew)
theorem sync_Sync_acked.B2_eq (s : Option Addr) (p : Int) (w : World)   (R : World → Prop)  :
    (
  sync_Sync_advance.Call s w fun w1 =>
  Pn s fun a =>
  (0 ≤ p ∧ p < ((3 : Nat) : Int)) ∧
  LdI .i64 (Addr.add (a.add 3) (p.toNat * 1)) w1.drew fun x50 =>
  Pn s fun a_1 =>
  LdI .i64 (a_1.add 9) w1.drew fun x54 =>
  Bm (decide (x50 ≤ x54)) (
    sync_Sync_send.Call s p w1.drew fun w2 =>
    R  w2) (
    R  w1.drew)) = kstep Tryz.prog 59 Tryz.f235.results.toList (Tryz.f235.body.getD .skip) (sync_Sync_acked.RV R) (kvc Tryz.prog 59 Tryz.f235.results.toList (Tryz.f235.body.getD .skip) (sync_Sync_acked.RV R) [] 2000) [(0, [1, 1, 1])] [(0, .pointer s), (1, .int .i64 p)] w := by kernel_rfl
theorem sync_Sync_acked.B2_sound {R : World → Prop}  (s : Option Addr) (p : Int) (w : World) (h : sync_Sync_acked.B2 s p w   R) :
    KW Tryz.prog 235 59 (sync_Sync_acked.RV R) ([(0, [1, 1, 1])].map (toItem (Tryz.f235.body.getD .skip))) [(0, .pointer s), (1, .int .i64 p)] w := by
  exact block_spec Tryz.func235 Tryz.mixed stops_nil (Eq.mp (sync_Sync_acked.B2_eq s p w   R ) h)
def sync_Sync_acked.B1 (s : Option Addr) (p index : Int) (t21 : Bool) (w : World)   (R : World → Prop) : Prop :=
  Bm t21 (
    R  w) (
    Pn s fun a =>
    (0 ≤ p ∧ p < ((3 : Nat) : Int)) ∧
    Sts [.int .i64 index] (Addr.add (a.add 6) (p.toNat * 1)) 0 w fun w1 =>
    Pn s fun a_1 =>
    (0 ≤ p ∧ p < ((3 : Nat) : Int)) ∧
    LdI .i64 (Addr.add (a_1.add 3) (p.toNat * 1)) w1 fun x33 =>
    Bm (decide (x33 ≤ index)) (
      Pn s fun a_2 =>
      (0 ≤ p ∧ p < ((3 : Nat) : Int)) ∧
      Sts [.int .i64 (IntKind.i64.wrap (index + (1 : Int)))] (Addr.add (a_2.add 3) (p.toNat * 1)) 0 w1 fun w2 =>
      sync_Sync_acked.B2 s p w2  R) (
      sync_Sync_acked.B2 s p w1  R))
theorem sync_Sync_acked.B1_eq (s : Option Addr) (p index : Int) (t21 : Bool) (w : World)   (R : World → Prop) (sB2 : Option Addr → Int → World → Prop) :
    (
  Bm t21 (
    R  w) (
    Pn s fun a =>
    (0 ≤ p ∧ p < ((3 : Nat) : Int)) ∧
    Sts [.int .i64 index] (Addr.add (a.add 6) (p.toNat * 1)) 0 w fun w1 =>
    Pn s fun a_1 =>
    (0 ≤ p ∧ p < ((3 : Nat) : Int)) ∧
    LdI .i64 (Addr.add (a_1.add 3) (p.toNat * 1)) w1 fun x33 =>
    Bm (decide (x33 ≤ index)) (
      Pn s fun a_2 =>
      (0 ≤ p ∧ p < ((3 : Nat) : Int)) ∧
      Sts [.int .i64 (IntKind.i64.wrap (index + (1 : Int)))] (Addr.add (a_2.add 3) (p.toNat * 1)) 0 w1 fun w2 =>
      sB2 s p w2) (
      sB2 s p w1))) = kstep Tryz.prog 59 Tryz.f235.results.toList (Tryz.f235.body.getD .skip) (sync_Sync_acked.RV R) (kvc Tryz.prog 59 Tryz.f235.results.toList (Tryz.f235.body.getD .skip) (sync_Sync_acked.RV R) [([(0, [1, 1, 1])], fun σ w => dP (slotOf σ 0) fun s_ => dI .i64 (slotOf σ 1) fun p_ => sB2 s_ p_ w)] 2000) [(0, [0, 1]), (0, [1])] [(0, .pointer s), (1, .int .i64 p), (2, .int .i64 index), (21, .bool t21)] w := by kernel_rfl
theorem sync_Sync_acked.B1_sound {R : World → Prop}  (s : Option Addr) (p index : Int) (t21 : Bool) (w : World) (h : sync_Sync_acked.B1 s p index t21 w   R) :
    KW Tryz.prog 235 59 (sync_Sync_acked.RV R) ([(0, [0, 1]), (0, [1])].map (toItem (Tryz.f235.body.getD .skip))) [(0, .pointer s), (1, .int .i64 p), (2, .int .i64 index), (21, .bool t21)] w := by
  exact block_spec Tryz.func235 Tryz.mixed (stops_cons (fun σ w h => by
      obtain ⟨s_, e0, h⟩ := dP_elim h
      obtain ⟨p_, e1, h⟩ := dI_elim h
      exact (sync_Sync_acked.B2_sound  s_ p_ w h).weaken (Sub.cons (Sub.cons (Sub.nil _) e1) e0)) stops_nil) (Eq.mp (sync_Sync_acked.B1_eq s p index t21 w   R (fun s_ p_ w => sync_Sync_acked.B2 s_ p_ w  R)) h)
def sync_Sync_acked.B0 (s : Option Addr) (p index : Int) (w : World)   (R : World → Prop) : Prop :=
  Pn s fun a =>
  (0 ≤ p ∧ p < ((3 : Nat) : Int)) ∧
  LdI .i64 (Addr.add (a.add 6) (p.toNat * 1)) w fun x12 =>
  Bm (decide (index ≤ x12)) (
    sync_Sync_acked.B1 s p index true w  R) (
    Pn s fun a_1 =>
    LdI .i64 (a_1.add 9) w fun x19 =>
    sync_Sync_acked.B1 s p index (decide (index > x19)) w  R)
theorem sync_Sync_acked.B0_eq (s : Option Addr) (p index : Int) (w : World)   (R : World → Prop) (sB1 : Option Addr → Int → Int → Bool → World → Prop) :
    (
  Pn s fun a =>
  (0 ≤ p ∧ p < ((3 : Nat) : Int)) ∧
  LdI .i64 (Addr.add (a.add 6) (p.toNat * 1)) w fun x12 =>
  Bm (decide (index ≤ x12)) (
    sB1 s p index true w) (
    Pn s fun a_1 =>
    LdI .i64 (a_1.add 9) w fun x19 =>
    sB1 s p index (decide (index > x19)) w)) = kstep Tryz.prog 59 Tryz.f235.results.toList (Tryz.f235.body.getD .skip) (sync_Sync_acked.RV R) (kvc Tryz.prog 59 Tryz.f235.results.toList (Tryz.f235.body.getD .skip) (sync_Sync_acked.RV R) [([(0, [0, 1]), (0, [1])], fun σ w => dP (slotOf σ 0) fun s_ => dI .i64 (slotOf σ 1) fun p_ => dI .i64 (slotOf σ 2) fun index_ => dB (slotOf σ 21) fun t21_ => sB1 s_ p_ index_ t21_ w)] 2000) [(0, [])] [(0, .pointer s), (1, .int .i64 p), (2, .int .i64 index)] w := by kernel_rfl
theorem sync_Sync_acked.B0_sound {R : World → Prop}  (s : Option Addr) (p index : Int) (w : World) (h : sync_Sync_acked.B0 s p index w   R) :
    KW Tryz.prog 235 59 (sync_Sync_acked.RV R) ([(0, [])].map (toItem (Tryz.f235.body.getD .skip))) [(0, .pointer s), (1, .int .i64 p), (2, .int .i64 index)] w := by
  exact block_spec Tryz.func235 Tryz.mixed (stops_cons (fun σ w h => by
      obtain ⟨s_, e0, h⟩ := dP_elim h
      obtain ⟨p_, e1, h⟩ := dI_elim h
      obtain ⟨index_, e2, h⟩ := dI_elim h
      obtain ⟨t21_, e3, h⟩ := dB_elim h
      exact (sync_Sync_acked.B1_sound  s_ p_ index_ t21_ w h).weaken (Sub.cons (Sub.cons (Sub.cons (Sub.cons (Sub.nil _) e3) e2) e1) e0)) stops_nil) (Eq.mp (sync_Sync_acked.B0_eq s p index w   R (fun s_ p_ index_ t21_ w => sync_Sync_acked.B1 s_ p_ index_ t21_ w  R)) h)
theorem sync_Sync_acked.sound (s : Option Addr) (p index : Int) (w : World) (R : World → Prop) (h : sync_Sync_acked.B0 s p index w R) : sync_Sync_acked.Call s p index w R := by
  have hc := calls_of_block (args := #[.pointer s, .int .i64 p, .int .i64 index]) Tryz.func235 (body := (Tryz.f235.body.getD .skip)) (by kernel_rfl) (by kernel_rfl) (args_slot _) (sync_Sync_acked.B0_sound s p index w h)
  exact hc.mono fun e w' he => by
    obtain ⟨v, rfl, hv⟩ := he
    exact sync_Sync_acked.RV_elim hv
def sync_Sync_refused.B1 (s : Option Addr) (p n : Int) (w : World)   (R : World → Prop) : Prop :=
  Pn s fun a =>
  (0 ≤ p ∧ p < ((3 : Nat) : Int)) ∧
  LdI .i64 (Addr.add (a.add 3) (p.toNat * 1)) w fun x30 =>
  Bm (decide (n < x30)) (
    Pn s fun a_1 =>
    (0 ≤ p ∧ p < ((3 : Nat) : Int)) ∧
    Sts [.int .i64 n] (Addr.add (a_1.add 3) (p.toNat * 1)) 0 w fun w1 =>
    sync_Sync_send.Call s p w1 fun w2 =>
    R  w2) (
    R  w)
theorem sync_Sync_refused.B1_eq (s : Option Addr) (p n : Int) (w : World)   (R : World → Prop)  :
    (
  Pn s fun a =>
  (0 ≤ p ∧ p < ((3 : Nat) : Int)) ∧
  LdI .i64 (Addr.add (a.add 3) (p.toNat * 1)) w fun x30 =>
  Bm (decide (n < x30)) (
    Pn s fun a_1 =>
    (0 ≤ p ∧ p < ((3 : Nat) : Int)) ∧
    Sts [.int .i64 n] (Addr.add (a_1.add 3) (p.toNat * 1)) 0 w fun w1 =>
    sync_Sync_send.Call s p w1 fun w2 =>
    R  w2) (
    R  w)) = kstep Tryz.prog 41 Tryz.f236.results.toList (Tryz.f236.body.getD .skip) (sync_Sync_refused.RV R) (kvc Tryz.prog 41 Tryz.f236.results.toList (Tryz.f236.body.getD .skip) (sync_Sync_refused.RV R) [] 2000) [(0, [1, 1])] [(0, .pointer s), (1, .int .i64 p), (6, .int .i64 n)] w := by kernel_rfl
theorem sync_Sync_refused.B1_sound {R : World → Prop}  (s : Option Addr) (p n : Int) (w : World) (h : sync_Sync_refused.B1 s p n w   R) :
    KW Tryz.prog 236 41 (sync_Sync_refused.RV R) ([(0, [1, 1])].map (toItem (Tryz.f236.body.getD .skip))) [(0, .pointer s), (1, .int .i64 p), (6, .int .i64 n)] w := by
  exact block_spec Tryz.func236 Tryz.mixed stops_nil (Eq.mp (sync_Sync_refused.B1_eq s p n w   R ) h)
def sync_Sync_refused.B0 (s : Option Addr) (p index : Int) (w : World)   (R : World → Prop) : Prop :=
  Pn s fun a =>
  (0 ≤ p ∧ p < ((3 : Nat) : Int)) ∧
  LdI .i64 (Addr.add (a.add 6) (p.toNat * 1)) w fun x15 =>
  Bm (decide ((IntKind.i64.wrap (index + (1 : Int))) ≤ x15)) (
    Pn s fun a_1 =>
    (0 ≤ p ∧ p < ((3 : Nat) : Int)) ∧
    LdI .i64 (Addr.add (a_1.add 6) (p.toNat * 1)) w fun x22 =>
    sync_Sync_refused.B1 s p (IntKind.i64.wrap (x22 + (1 : Int))) w  R) (
    sync_Sync_refused.B1 s p (IntKind.i64.wrap (index + (1 : Int))) w  R)
theorem sync_Sync_refused.B0_eq (s : Option Addr) (p index : Int) (w : World)   (R : World → Prop) (sB1 : Option Addr → Int → Int → World → Prop) :
    (
  Pn s fun a =>
  (0 ≤ p ∧ p < ((3 : Nat) : Int)) ∧
  LdI .i64 (Addr.add (a.add 6) (p.toNat * 1)) w fun x15 =>
  Bm (decide ((IntKind.i64.wrap (index + (1 : Int))) ≤ x15)) (
    Pn s fun a_1 =>
    (0 ≤ p ∧ p < ((3 : Nat) : Int)) ∧
    LdI .i64 (Addr.add (a_1.add 6) (p.toNat * 1)) w fun x22 =>
    sB1 s p (IntKind.i64.wrap (x22 + (1 : Int))) w) (
    sB1 s p (IntKind.i64.wrap (index + (1 : Int))) w)) = kstep Tryz.prog 41 Tryz.f236.results.toList (Tryz.f236.body.getD .skip) (sync_Sync_refused.RV R) (kvc Tryz.prog 41 Tryz.f236.results.toList (Tryz.f236.body.getD .skip) (sync_Sync_refused.RV R) [([(0, [1, 1])], fun σ w => dP (slotOf σ 0) fun s_ => dI .i64 (slotOf σ 1) fun p_ => dI .i64 (slotOf σ 6) fun n_ => sB1 s_ p_ n_ w)] 2000) [(0, [])] [(0, .pointer s), (1, .int .i64 p), (2, .int .i64 index)] w := by kernel_rfl
theorem sync_Sync_refused.B0_sound {R : World → Prop}  (s : Option Addr) (p index : Int) (w : World) (h : sync_Sync_refused.B0 s p index w   R) :
    KW Tryz.prog 236 41 (sync_Sync_refused.RV R) ([(0, [])].map (toItem (Tryz.f236.body.getD .skip))) [(0, .pointer s), (1, .int .i64 p), (2, .int .i64 index)] w := by
  exact block_spec Tryz.func236 Tryz.mixed (stops_cons (fun σ w h => by
      obtain ⟨s_, e0, h⟩ := dP_elim h
      obtain ⟨p_, e1, h⟩ := dI_elim h
      obtain ⟨n_, e2, h⟩ := dI_elim h
      exact (sync_Sync_refused.B1_sound  s_ p_ n_ w h).weaken (Sub.cons (Sub.cons (Sub.cons (Sub.nil _) e2) e1) e0)) stops_nil) (Eq.mp (sync_Sync_refused.B0_eq s p index w   R (fun s_ p_ n_ w => sync_Sync_refused.B1 s_ p_ n_ w  R)) h)
theorem sync_Sync_refused.sound (s : Option Addr) (p index : Int) (w : World) (R : World → Prop) (h : sync_Sync_refused.B0 s p index w R) : sync_Sync_refused.Call s p index w R := by
  have hc := calls_of_block (args := #[.pointer s, .int .i64 p, .int .i64 index]) Tryz.func236 (body := (Tryz.f236.body.getD .skip)) (by kernel_rfl) (by kernel_rfl) (args_slot _) (sync_Sync_refused.B0_sound s p index w h)
  exact hc.mono fun e w' he => by
    obtain ⟨v, rfl, hv⟩ := he
    exact sync_Sync_refused.RV_elim hv
end Go.Proofs.Qxb6500430aGreat
