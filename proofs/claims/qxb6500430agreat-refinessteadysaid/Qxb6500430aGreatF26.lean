import Derived.Test.Qxb6500430aGreatSig
set_option maxRecDepth 100000
set_option linter.unusedVariables false
open Go.Vc
namespace Go.Proofs.Qxb6500430aGreat
def kv_table_rebuild.B2 (t : Option Addr) (keep : Nat) (n i : Int) (w : World) (N1 : Option Addr → Nat → Int → Int → World → Prop)  (R : World → Prop) : Prop :=
  N1 t keep n (IntKind.i64.wrap (i + (1 : Int))) w
theorem kv_table_rebuild.B2_eq (t : Option Addr) (keep : Nat) (n i : Int) (w : World) (N1 : Option Addr → Nat → Int → Int → World → Prop)  (R : World → Prop)  :
    (
  N1 t keep n (IntKind.i64.wrap (i + (1 : Int))) w) = kstep Tryz.prog 78 Tryz.f261.results.toList (Tryz.f261.body.getD .skip) (kv_table_rebuild.RV R) (kvc Tryz.prog 78 Tryz.f261.results.toList (Tryz.f261.body.getD .skip) (kv_table_rebuild.RV R) [([(0, [1, 1, 0, 1, 0, 0]), (2, [1, 1, 0, 1, 0, 0]), (1, [0]), (0, [1, 1, 1])], fun σ w => dP (slotOf σ 0) fun t_ => dK (slotOf σ 2) fun keep_ => dI .i64 (slotOf σ 3) fun n_ => dI .i64 (slotOf σ 4) fun i_ => N1 t_ keep_ n_ i_ w)] 2000) [(0, [1, 1, 0, 1, 0, 0, 1, 1]), (2, [1, 1, 0, 1, 0, 0]), (1, [0]), (0, [1, 1, 1])] [(0, .pointer t), (2, .pointer (some ⟨keep, 0, none⟩)), (3, .int .i64 n), (4, .int .i64 i)] w := by kernel_rfl
theorem kv_table_rebuild.B2_sound {R : World → Prop} {N1 : Option Addr → Nat → Int → Int → World → Prop} (hN1 : ∀ t keep n i w, N1 t keep n i w → KW Tryz.prog 261 78 (kv_table_rebuild.RV R) ([(0, [1, 1, 0, 1, 0, 0]), (2, [1, 1, 0, 1, 0, 0]), (1, [0]), (0, [1, 1, 1])].map (toItem (Tryz.f261.body.getD .skip))) [(0, .pointer t), (2, .pointer (some ⟨keep, 0, none⟩)), (3, .int .i64 n), (4, .int .i64 i)] w) (t : Option Addr) (keep : Nat) (n i : Int) (w : World) (h : kv_table_rebuild.B2 t keep n i w N1  R) :
    KW Tryz.prog 261 78 (kv_table_rebuild.RV R) ([(0, [1, 1, 0, 1, 0, 0, 1, 1]), (2, [1, 1, 0, 1, 0, 0]), (1, [0]), (0, [1, 1, 1])].map (toItem (Tryz.f261.body.getD .skip))) [(0, .pointer t), (2, .pointer (some ⟨keep, 0, none⟩)), (3, .int .i64 n), (4, .int .i64 i)] w := by
  exact block_spec Tryz.func261 Tryz.mixed (stops_cons (fun σ w h => by
      obtain ⟨t_, e0, h⟩ := dP_elim h
      obtain ⟨keep_, e1, h⟩ := dK_elim h
      obtain ⟨n_, e2, h⟩ := dI_elim h
      obtain ⟨i_, e3, h⟩ := dI_elim h
      exact (hN1 t_ keep_ n_ i_ w h).weaken (Sub.cons (Sub.cons (Sub.cons (Sub.cons (Sub.nil _) e3) e2) e1) e0)) stops_nil) (Eq.mp (kv_table_rebuild.B2_eq t keep n i w N1  R ) h)
def kv_table_rebuild.B1 (t : Option Addr) (keep : Nat) (n i : Int) (t24 : Bool) (w : World) (N1 : Option Addr → Nat → Int → Int → World → Prop)  (R : World → Prop) : Prop :=
  Bm t24 (
    Pn t fun a =>
    (0 ≤ i ∧ i < ((8 : Nat) : Int)) ∧
    LdI .i64 (Addr.add a (i.toNat * 8)) w fun x31_0 =>
    LdI .i64 ((Addr.add a (i.toNat * 8)).add 1) w fun x31_1 =>
    LdI .u8 ((Addr.add a (i.toNat * 8)).add 2) w fun x31_2 =>
    LdI .u8 ((Addr.add a (i.toNat * 8)).add 3) w fun x31_3 =>
    LdI .i64 ((Addr.add a (i.toNat * 8)).add 4) w fun x31_4 =>
    LdI .u8 ((Addr.add a (i.toNat * 8)).add 5) w fun x31_5 =>
    LdI .u8 ((Addr.add a (i.toNat * 8)).add 6) w fun x31_6 =>
    LdI .u8 ((Addr.add a (i.toNat * 8)).add 7) w fun x31_7 =>
    (0 ≤ n ∧ n < ((4 : Nat) : Int)) ∧
    Sts [.int .i64 x31_0, .int .i64 x31_1, .int .u8 x31_2, .int .u8 x31_3, .int .i64 x31_4, .int .u8 x31_5, .int .u8 x31_6, .int .u8 x31_7] (Addr.add ⟨keep, 0, none⟩ (n.toNat * 8)) 0 w fun w1 =>
    kv_table_rebuild.B2 t keep (IntKind.i64.wrap (n + (1 : Int))) i w1 N1 R) (
    kv_table_rebuild.B2 t keep n i w N1 R)
theorem kv_table_rebuild.B1_eq (t : Option Addr) (keep : Nat) (n i : Int) (t24 : Bool) (w : World) (N1 : Option Addr → Nat → Int → Int → World → Prop)  (R : World → Prop) (sB2 : Option Addr → Nat → Int → Int → World → Prop) :
    (
  Bm t24 (
    Pn t fun a =>
    (0 ≤ i ∧ i < ((8 : Nat) : Int)) ∧
    LdI .i64 (Addr.add a (i.toNat * 8)) w fun x31_0 =>
    LdI .i64 ((Addr.add a (i.toNat * 8)).add 1) w fun x31_1 =>
    LdI .u8 ((Addr.add a (i.toNat * 8)).add 2) w fun x31_2 =>
    LdI .u8 ((Addr.add a (i.toNat * 8)).add 3) w fun x31_3 =>
    LdI .i64 ((Addr.add a (i.toNat * 8)).add 4) w fun x31_4 =>
    LdI .u8 ((Addr.add a (i.toNat * 8)).add 5) w fun x31_5 =>
    LdI .u8 ((Addr.add a (i.toNat * 8)).add 6) w fun x31_6 =>
    LdI .u8 ((Addr.add a (i.toNat * 8)).add 7) w fun x31_7 =>
    (0 ≤ n ∧ n < ((4 : Nat) : Int)) ∧
    Sts [.int .i64 x31_0, .int .i64 x31_1, .int .u8 x31_2, .int .u8 x31_3, .int .i64 x31_4, .int .u8 x31_5, .int .u8 x31_6, .int .u8 x31_7] (Addr.add ⟨keep, 0, none⟩ (n.toNat * 8)) 0 w fun w1 =>
    sB2 t keep (IntKind.i64.wrap (n + (1 : Int))) i w1) (
    sB2 t keep n i w)) = kstep Tryz.prog 78 Tryz.f261.results.toList (Tryz.f261.body.getD .skip) (kv_table_rebuild.RV R) (kvc Tryz.prog 78 Tryz.f261.results.toList (Tryz.f261.body.getD .skip) (kv_table_rebuild.RV R) [([(0, [1, 1, 0, 1, 0, 0, 1, 1]), (2, [1, 1, 0, 1, 0, 0]), (1, [0]), (0, [1, 1, 1])], fun σ w => dP (slotOf σ 0) fun t_ => dK (slotOf σ 2) fun keep_ => dI .i64 (slotOf σ 3) fun n_ => dI .i64 (slotOf σ 4) fun i_ => sB2 t_ keep_ n_ i_ w)] 2000) [(0, [1, 1, 0, 1, 0, 0, 1, 0, 0, 1]), (1, [1]), (0, [1, 1, 0, 1, 0, 0, 1, 1]), (2, [1, 1, 0, 1, 0, 0]), (1, [0]), (0, [1, 1, 1])] [(0, .pointer t), (2, .pointer (some ⟨keep, 0, none⟩)), (3, .int .i64 n), (4, .int .i64 i), (24, .bool t24)] w := by kernel_rfl
theorem kv_table_rebuild.B1_sound {R : World → Prop} {N1 : Option Addr → Nat → Int → Int → World → Prop} (hN1 : ∀ t keep n i w, N1 t keep n i w → KW Tryz.prog 261 78 (kv_table_rebuild.RV R) ([(0, [1, 1, 0, 1, 0, 0]), (2, [1, 1, 0, 1, 0, 0]), (1, [0]), (0, [1, 1, 1])].map (toItem (Tryz.f261.body.getD .skip))) [(0, .pointer t), (2, .pointer (some ⟨keep, 0, none⟩)), (3, .int .i64 n), (4, .int .i64 i)] w) (t : Option Addr) (keep : Nat) (n i : Int) (t24 : Bool) (w : World) (h : kv_table_rebuild.B1 t keep n i t24 w N1  R) :
    KW Tryz.prog 261 78 (kv_table_rebuild.RV R) ([(0, [1, 1, 0, 1, 0, 0, 1, 0, 0, 1]), (1, [1]), (0, [1, 1, 0, 1, 0, 0, 1, 1]), (2, [1, 1, 0, 1, 0, 0]), (1, [0]), (0, [1, 1, 1])].map (toItem (Tryz.f261.body.getD .skip))) [(0, .pointer t), (2, .pointer (some ⟨keep, 0, none⟩)), (3, .int .i64 n), (4, .int .i64 i), (24, .bool t24)] w := by
  exact block_spec Tryz.func261 Tryz.mixed (stops_cons (fun σ w h => by
      obtain ⟨t_, e0, h⟩ := dP_elim h
      obtain ⟨keep_, e1, h⟩ := dK_elim h
      obtain ⟨n_, e2, h⟩ := dI_elim h
      obtain ⟨i_, e3, h⟩ := dI_elim h
      exact (kv_table_rebuild.B2_sound hN1 t_ keep_ n_ i_ w h).weaken (Sub.cons (Sub.cons (Sub.cons (Sub.cons (Sub.nil _) e3) e2) e1) e0)) stops_nil) (Eq.mp (kv_table_rebuild.B1_eq t keep n i t24 w N1  R (fun t_ keep_ n_ i_ w => kv_table_rebuild.B2 t_ keep_ n_ i_ w N1 R)) h)
def kv_table_rebuild.L3b (t : Option Addr) (keep : Nat) (n j : Int) (w : World)  (N3 : Option Addr → Nat → Int → Int → World → Prop) (R : World → Prop) : Prop :=
  Bm (decide (j < n)) (
    (0 ≤ j ∧ j < ((4 : Nat) : Int)) ∧
    LdI .i64 (Addr.add ⟨keep, 0, none⟩ (j.toNat * 8)) w fun x58_0 =>
    LdI .i64 ((Addr.add ⟨keep, 0, none⟩ (j.toNat * 8)).add 1) w fun x58_1 =>
    LdI .u8 ((Addr.add ⟨keep, 0, none⟩ (j.toNat * 8)).add 2) w fun x58_2 =>
    LdI .u8 ((Addr.add ⟨keep, 0, none⟩ (j.toNat * 8)).add 3) w fun x58_3 =>
    LdI .i64 ((Addr.add ⟨keep, 0, none⟩ (j.toNat * 8)).add 4) w fun x58_4 =>
    LdI .u8 ((Addr.add ⟨keep, 0, none⟩ (j.toNat * 8)).add 5) w fun x58_5 =>
    LdI .u8 ((Addr.add ⟨keep, 0, none⟩ (j.toNat * 8)).add 6) w fun x58_6 =>
    LdI .u8 ((Addr.add ⟨keep, 0, none⟩ (j.toNat * 8)).add 7) w fun x58_7 =>
    kv_keyOf.Call x58_0 x58_1 x58_2 x58_3 x58_4 x58_5 x58_6 x58_7 w fun r59 w1 =>
    kv_table_room.Call t r59 w1 fun r62 w2 =>
    (0 ≤ j ∧ j < ((4 : Nat) : Int)) ∧
    LdI .i64 (Addr.add ⟨keep, 0, none⟩ (j.toNat * 8)) w2.drew fun x67_0 =>
    LdI .i64 ((Addr.add ⟨keep, 0, none⟩ (j.toNat * 8)).add 1) w2.drew fun x67_1 =>
    LdI .u8 ((Addr.add ⟨keep, 0, none⟩ (j.toNat * 8)).add 2) w2.drew fun x67_2 =>
    LdI .u8 ((Addr.add ⟨keep, 0, none⟩ (j.toNat * 8)).add 3) w2.drew fun x67_3 =>
    LdI .i64 ((Addr.add ⟨keep, 0, none⟩ (j.toNat * 8)).add 4) w2.drew fun x67_4 =>
    LdI .u8 ((Addr.add ⟨keep, 0, none⟩ (j.toNat * 8)).add 5) w2.drew fun x67_5 =>
    LdI .u8 ((Addr.add ⟨keep, 0, none⟩ (j.toNat * 8)).add 6) w2.drew fun x67_6 =>
    LdI .u8 ((Addr.add ⟨keep, 0, none⟩ (j.toNat * 8)).add 7) w2.drew fun x67_7 =>
    Pn t fun a =>
    (0 ≤ r62 ∧ r62 < ((8 : Nat) : Int)) ∧
    Sts [.int .i64 x67_0, .int .i64 x67_1, .int .u8 x67_2, .int .u8 x67_3, .int .i64 x67_4, .int .u8 x67_5, .int .u8 x67_6, .int .u8 x67_7] (Addr.add a (r62.toNat * 8)) 0 w2.drew fun w3 =>
    Pn t fun a_1 =>
    LdI .i64 (a_1.add 64) w3 fun x74 =>
    Pn t fun a_2 =>
    Sts [.int .i64 (IntKind.i64.wrap (x74 + (1 : Int)))] (a_2.add 64) 0 w3 fun w4 =>
    N3 t keep n (IntKind.i64.wrap (j + (1 : Int))) w4) (
    R  w)
theorem kv_table_rebuild.L3b_eq (t : Option Addr) (keep : Nat) (n j : Int) (w : World)  (N3 : Option Addr → Nat → Int → Int → World → Prop) (R : World → Prop)  :
    (
  Bm (decide (j < n)) (
    (0 ≤ j ∧ j < ((4 : Nat) : Int)) ∧
    LdI .i64 (Addr.add ⟨keep, 0, none⟩ (j.toNat * 8)) w fun x58_0 =>
    LdI .i64 ((Addr.add ⟨keep, 0, none⟩ (j.toNat * 8)).add 1) w fun x58_1 =>
    LdI .u8 ((Addr.add ⟨keep, 0, none⟩ (j.toNat * 8)).add 2) w fun x58_2 =>
    LdI .u8 ((Addr.add ⟨keep, 0, none⟩ (j.toNat * 8)).add 3) w fun x58_3 =>
    LdI .i64 ((Addr.add ⟨keep, 0, none⟩ (j.toNat * 8)).add 4) w fun x58_4 =>
    LdI .u8 ((Addr.add ⟨keep, 0, none⟩ (j.toNat * 8)).add 5) w fun x58_5 =>
    LdI .u8 ((Addr.add ⟨keep, 0, none⟩ (j.toNat * 8)).add 6) w fun x58_6 =>
    LdI .u8 ((Addr.add ⟨keep, 0, none⟩ (j.toNat * 8)).add 7) w fun x58_7 =>
    kv_keyOf.Call x58_0 x58_1 x58_2 x58_3 x58_4 x58_5 x58_6 x58_7 w fun r59 w1 =>
    kv_table_room.Call t r59 w1 fun r62 w2 =>
    (0 ≤ j ∧ j < ((4 : Nat) : Int)) ∧
    LdI .i64 (Addr.add ⟨keep, 0, none⟩ (j.toNat * 8)) w2.drew fun x67_0 =>
    LdI .i64 ((Addr.add ⟨keep, 0, none⟩ (j.toNat * 8)).add 1) w2.drew fun x67_1 =>
    LdI .u8 ((Addr.add ⟨keep, 0, none⟩ (j.toNat * 8)).add 2) w2.drew fun x67_2 =>
    LdI .u8 ((Addr.add ⟨keep, 0, none⟩ (j.toNat * 8)).add 3) w2.drew fun x67_3 =>
    LdI .i64 ((Addr.add ⟨keep, 0, none⟩ (j.toNat * 8)).add 4) w2.drew fun x67_4 =>
    LdI .u8 ((Addr.add ⟨keep, 0, none⟩ (j.toNat * 8)).add 5) w2.drew fun x67_5 =>
    LdI .u8 ((Addr.add ⟨keep, 0, none⟩ (j.toNat * 8)).add 6) w2.drew fun x67_6 =>
    LdI .u8 ((Addr.add ⟨keep, 0, none⟩ (j.toNat * 8)).add 7) w2.drew fun x67_7 =>
    Pn t fun a =>
    (0 ≤ r62 ∧ r62 < ((8 : Nat) : Int)) ∧
    Sts [.int .i64 x67_0, .int .i64 x67_1, .int .u8 x67_2, .int .u8 x67_3, .int .i64 x67_4, .int .u8 x67_5, .int .u8 x67_6, .int .u8 x67_7] (Addr.add a (r62.toNat * 8)) 0 w2.drew fun w3 =>
    Pn t fun a_1 =>
    LdI .i64 (a_1.add 64) w3 fun x74 =>
    Pn t fun a_2 =>
    Sts [.int .i64 (IntKind.i64.wrap (x74 + (1 : Int)))] (a_2.add 64) 0 w3 fun w4 =>
    N3 t keep n (IntKind.i64.wrap (j + (1 : Int))) w4) (
    R  w)) = kstep Tryz.prog 78 Tryz.f261.results.toList (Tryz.f261.body.getD .skip) (kv_table_rebuild.RV R) (kvc Tryz.prog 78 Tryz.f261.results.toList (Tryz.f261.body.getD .skip) (kv_table_rebuild.RV R) [([(0, [1, 1, 1, 1, 1, 1, 1, 0, 0]), (2, [1, 1, 1, 1, 1, 1, 1, 0, 0]), (1, [4])], fun σ w => dP (slotOf σ 0) fun t_ => dK (slotOf σ 2) fun keep_ => dI .i64 (slotOf σ 3) fun n_ => dI .i64 (slotOf σ 6) fun j_ => N3 t_ keep_ n_ j_ w)] 2000) [(0, [1, 1, 1, 1, 1, 1, 1, 0, 0]), (2, [1, 1, 1, 1, 1, 1, 1, 0, 0]), (1, [4])] [(0, .pointer t), (2, .pointer (some ⟨keep, 0, none⟩)), (3, .int .i64 n), (6, .int .i64 j)] w := by kernel_rfl
theorem kv_table_rebuild.L3b_sound {R : World → Prop} {N3 : Option Addr → Nat → Int → Int → World → Prop} (hN3 : ∀ t keep n j w, N3 t keep n j w → KW Tryz.prog 261 78 (kv_table_rebuild.RV R) ([(0, [1, 1, 1, 1, 1, 1, 1, 0, 0]), (2, [1, 1, 1, 1, 1, 1, 1, 0, 0]), (1, [4])].map (toItem (Tryz.f261.body.getD .skip))) [(0, .pointer t), (2, .pointer (some ⟨keep, 0, none⟩)), (3, .int .i64 n), (6, .int .i64 j)] w) (t : Option Addr) (keep : Nat) (n j : Int) (w : World) (h : kv_table_rebuild.L3b t keep n j w  N3 R) :
    KW Tryz.prog 261 78 (kv_table_rebuild.RV R) ([(0, [1, 1, 1, 1, 1, 1, 1, 0, 0]), (2, [1, 1, 1, 1, 1, 1, 1, 0, 0]), (1, [4])].map (toItem (Tryz.f261.body.getD .skip))) [(0, .pointer t), (2, .pointer (some ⟨keep, 0, none⟩)), (3, .int .i64 n), (6, .int .i64 j)] w := by
  exact block_spec Tryz.func261 Tryz.mixed (stops_cons (fun σ w h => by
      obtain ⟨t_, e0, h⟩ := dP_elim h
      obtain ⟨keep_, e1, h⟩ := dK_elim h
      obtain ⟨n_, e2, h⟩ := dI_elim h
      obtain ⟨j_, e3, h⟩ := dI_elim h
      exact (hN3 t_ keep_ n_ j_ w h).weaken (Sub.cons (Sub.cons (Sub.cons (Sub.cons (Sub.nil _) e3) e2) e1) e0)) stops_nil) (Eq.mp (kv_table_rebuild.L3b_eq t keep n j w  N3 R ) h)
def kv_table_rebuild.L3 (t : Option Addr) (keep : Nat) (n j : Int) (w : World)  (R : World → Prop) : Prop :=
  ∃ (I : Nat → Option Addr → Nat → Int → Int → World → Prop) (m : Nat), I m t keep n j w ∧ ∀ m t keep n j w, I m t keep n j w → kv_table_rebuild.L3b t keep n j w  (fun t' keep' n' j' w' => ∃ m', m' < m ∧ I m' t' keep' n' j' w') R
theorem kv_table_rebuild.L3_sound {R : World → Prop}  (t : Option Addr) (keep : Nat) (n j : Int) (w : World) (h : kv_table_rebuild.L3 t keep n j w  R) :
    KW Tryz.prog 261 78 (kv_table_rebuild.RV R) ([(0, [1, 1, 1, 1, 1, 1, 1, 0, 0]), (2, [1, 1, 1, 1, 1, 1, 1, 0, 0]), (1, [4])].map (toItem (Tryz.f261.body.getD .skip))) [(0, .pointer t), (2, .pointer (some ⟨keep, 0, none⟩)), (3, .int .i64 n), (6, .int .i64 j)] w := by
  obtain ⟨I, m, hBase, hr⟩ := h
  refine KW.loop (fun m σ w => ∃ (t : Option Addr) (keep : Nat) (n j : Int), σ = [(0, .pointer t), (2, .pointer (some ⟨keep, 0, none⟩)), (3, .int .i64 n), (6, .int .i64 j)] ∧ I m t keep n j w) ?_ m _ w ⟨t, keep, n, j, rfl, hBase⟩
  rintro m ih σ w ⟨t, keep, n, j, rfl, hI⟩
  exact kv_table_rebuild.L3b_sound  (N3 := fun t' keep' n' j' w' => ∃ m', m' < m ∧ I m' t' keep' n' j' w') (fun t' keep' n' j' w' hx => by obtain ⟨m', hlt, hI'⟩ := hx; exact ih m' hlt _ w' ⟨t', keep', n', j', rfl, hI'⟩) t keep n j w (hr m t keep n j w hI)
def kv_table_rebuild.L2b (t : Option Addr) (keep : Nat) (n i : Int) (w : World)  (N2 : Option Addr → Nat → Int → Int → World → Prop) (R : World → Prop) : Prop :=
  Bm (decide (i < (8 : Int))) (
    Pn t fun a =>
    (0 ≤ i ∧ i < ((8 : Nat) : Int)) ∧
    Sts [.int .i64 (0 : Int), .int .i64 (0 : Int), .int .u8 (0 : Int), .int .u8 (0 : Int), .int .i64 (0 : Int), .int .u8 (0 : Int), .int .u8 (0 : Int), .int .u8 (0 : Int)] (Addr.add a (i.toNat * 8)) 0 w fun w1 =>
    N2 t keep n (IntKind.i64.wrap (i + (1 : Int))) w1) (
    Pn t fun a_1 =>
    Sts [.int .i64 (0 : Int)] (a_1.add 64) 0 w fun w2 =>
    Pn t fun a_2 =>
    Sts [.int .i64 (0 : Int)] (a_2.add 65) 0 w2 fun w3 =>
    kv_table_rebuild.L3 t keep n (0 : Int) w3  R)
theorem kv_table_rebuild.L2b_eq (t : Option Addr) (keep : Nat) (n i : Int) (w : World)  (N2 : Option Addr → Nat → Int → Int → World → Prop) (R : World → Prop) (sL3 : Option Addr → Nat → Int → Int → World → Prop) :
    (
  Bm (decide (i < (8 : Int))) (
    Pn t fun a =>
    (0 ≤ i ∧ i < ((8 : Nat) : Int)) ∧
    Sts [.int .i64 (0 : Int), .int .i64 (0 : Int), .int .u8 (0 : Int), .int .u8 (0 : Int), .int .i64 (0 : Int), .int .u8 (0 : Int), .int .u8 (0 : Int), .int .u8 (0 : Int)] (Addr.add a (i.toNat * 8)) 0 w fun w1 =>
    N2 t keep n (IntKind.i64.wrap (i + (1 : Int))) w1) (
    Pn t fun a_1 =>
    Sts [.int .i64 (0 : Int)] (a_1.add 64) 0 w fun w2 =>
    Pn t fun a_2 =>
    Sts [.int .i64 (0 : Int)] (a_2.add 65) 0 w2 fun w3 =>
    sL3 t keep n (0 : Int) w3)) = kstep Tryz.prog 78 Tryz.f261.results.toList (Tryz.f261.body.getD .skip) (kv_table_rebuild.RV R) (kvc Tryz.prog 78 Tryz.f261.results.toList (Tryz.f261.body.getD .skip) (kv_table_rebuild.RV R) [([(0, [1, 1, 1, 0, 1, 0, 0]), (2, [1, 1, 1, 0, 1, 0, 0]), (1, [2]), (0, [1, 1, 1, 1])], fun σ w => dP (slotOf σ 0) fun t_ => dK (slotOf σ 2) fun keep_ => dI .i64 (slotOf σ 3) fun n_ => dI .i64 (slotOf σ 5) fun i_ => N2 t_ keep_ n_ i_ w),
    ([(0, [1, 1, 1, 1, 1, 1, 1, 0, 0]), (2, [1, 1, 1, 1, 1, 1, 1, 0, 0]), (1, [4])], fun σ w => dP (slotOf σ 0) fun t_ => dK (slotOf σ 2) fun keep_ => dI .i64 (slotOf σ 3) fun n_ => dI .i64 (slotOf σ 6) fun j_ => sL3 t_ keep_ n_ j_ w)] 2000) [(0, [1, 1, 1, 0, 1, 0, 0]), (2, [1, 1, 1, 0, 1, 0, 0]), (1, [2]), (0, [1, 1, 1, 1])] [(0, .pointer t), (2, .pointer (some ⟨keep, 0, none⟩)), (3, .int .i64 n), (5, .int .i64 i)] w := by kernel_rfl
theorem kv_table_rebuild.L2b_sound {R : World → Prop} {N2 : Option Addr → Nat → Int → Int → World → Prop} (hN2 : ∀ t keep n i w, N2 t keep n i w → KW Tryz.prog 261 78 (kv_table_rebuild.RV R) ([(0, [1, 1, 1, 0, 1, 0, 0]), (2, [1, 1, 1, 0, 1, 0, 0]), (1, [2]), (0, [1, 1, 1, 1])].map (toItem (Tryz.f261.body.getD .skip))) [(0, .pointer t), (2, .pointer (some ⟨keep, 0, none⟩)), (3, .int .i64 n), (5, .int .i64 i)] w) (t : Option Addr) (keep : Nat) (n i : Int) (w : World) (h : kv_table_rebuild.L2b t keep n i w  N2 R) :
    KW Tryz.prog 261 78 (kv_table_rebuild.RV R) ([(0, [1, 1, 1, 0, 1, 0, 0]), (2, [1, 1, 1, 0, 1, 0, 0]), (1, [2]), (0, [1, 1, 1, 1])].map (toItem (Tryz.f261.body.getD .skip))) [(0, .pointer t), (2, .pointer (some ⟨keep, 0, none⟩)), (3, .int .i64 n), (5, .int .i64 i)] w := by
  exact block_spec Tryz.func261 Tryz.mixed (stops_cons (fun σ w h => by
      obtain ⟨t_, e0, h⟩ := dP_elim h
      obtain ⟨keep_, e1, h⟩ := dK_elim h
      obtain ⟨n_, e2, h⟩ := dI_elim h
      obtain ⟨i_, e3, h⟩ := dI_elim h
      exact (hN2 t_ keep_ n_ i_ w h).weaken (Sub.cons (Sub.cons (Sub.cons (Sub.cons (Sub.nil _) e3) e2) e1) e0)) (stops_cons (fun σ w h => by
      obtain ⟨t_, e0, h⟩ := dP_elim h
      obtain ⟨keep_, e1, h⟩ := dK_elim h
      obtain ⟨n_, e2, h⟩ := dI_elim h
      obtain ⟨j_, e3, h⟩ := dI_elim h
      exact (kv_table_rebuild.L3_sound  t_ keep_ n_ j_ w h).weaken (Sub.cons (Sub.cons (Sub.cons (Sub.cons (Sub.nil _) e3) e2) e1) e0)) stops_nil)) (Eq.mp (kv_table_rebuild.L2b_eq t keep n i w  N2 R (fun t_ keep_ n_ j_ w => kv_table_rebuild.L3 t_ keep_ n_ j_ w  R)) h)
def kv_table_rebuild.L2 (t : Option Addr) (keep : Nat) (n i : Int) (w : World)  (R : World → Prop) : Prop :=
  ∃ (I : Nat → Option Addr → Nat → Int → Int → World → Prop) (m : Nat), I m t keep n i w ∧ ∀ m t keep n i w, I m t keep n i w → kv_table_rebuild.L2b t keep n i w  (fun t' keep' n' i' w' => ∃ m', m' < m ∧ I m' t' keep' n' i' w') R
theorem kv_table_rebuild.L2_sound {R : World → Prop}  (t : Option Addr) (keep : Nat) (n i : Int) (w : World) (h : kv_table_rebuild.L2 t keep n i w  R) :
    KW Tryz.prog 261 78 (kv_table_rebuild.RV R) ([(0, [1, 1, 1, 0, 1, 0, 0]), (2, [1, 1, 1, 0, 1, 0, 0]), (1, [2]), (0, [1, 1, 1, 1])].map (toItem (Tryz.f261.body.getD .skip))) [(0, .pointer t), (2, .pointer (some ⟨keep, 0, none⟩)), (3, .int .i64 n), (5, .int .i64 i)] w := by
  obtain ⟨I, m, hBase, hr⟩ := h
  refine KW.loop (fun m σ w => ∃ (t : Option Addr) (keep : Nat) (n i : Int), σ = [(0, .pointer t), (2, .pointer (some ⟨keep, 0, none⟩)), (3, .int .i64 n), (5, .int .i64 i)] ∧ I m t keep n i w) ?_ m _ w ⟨t, keep, n, i, rfl, hBase⟩
  rintro m ih σ w ⟨t, keep, n, i, rfl, hI⟩
  exact kv_table_rebuild.L2b_sound  (N2 := fun t' keep' n' i' w' => ∃ m', m' < m ∧ I m' t' keep' n' i' w') (fun t' keep' n' i' w' hx => by obtain ⟨m', hlt, hI'⟩ := hx; exact ih m' hlt _ w' ⟨t', keep', n', i', rfl, hI'⟩) t keep n i w (hr m t keep n i w hI)
def kv_table_rebuild.L1b (t : Option Addr) (keep : Nat) (n i : Int) (w : World)  (N1 : Option Addr → Nat → Int → Int → World → Prop) (R : World → Prop) : Prop :=
  Bm (decide (i < (8 : Int))) (
    Pn t fun a =>
    (0 ≤ i ∧ i < ((8 : Nat) : Int)) ∧
    LdI .i64 (Addr.add a (i.toNat * 8)) w fun x19 =>
    Bm (x19 == (1 : Int)) (
      kv_table_rebuild.B1 t keep n i (decide (n < (4 : Int))) w N1 R) (
      kv_table_rebuild.B1 t keep n i false w N1 R)) (
    kv_table_rebuild.L2 t keep n (0 : Int) w  R)
theorem kv_table_rebuild.L1b_eq (t : Option Addr) (keep : Nat) (n i : Int) (w : World)  (N1 : Option Addr → Nat → Int → Int → World → Prop) (R : World → Prop) (sB1 : Option Addr → Nat → Int → Int → Bool → World → Prop) (sL2 : Option Addr → Nat → Int → Int → World → Prop) :
    (
  Bm (decide (i < (8 : Int))) (
    Pn t fun a =>
    (0 ≤ i ∧ i < ((8 : Nat) : Int)) ∧
    LdI .i64 (Addr.add a (i.toNat * 8)) w fun x19 =>
    Bm (x19 == (1 : Int)) (
      sB1 t keep n i (decide (n < (4 : Int))) w) (
      sB1 t keep n i false w)) (
    sL2 t keep n (0 : Int) w)) = kstep Tryz.prog 78 Tryz.f261.results.toList (Tryz.f261.body.getD .skip) (kv_table_rebuild.RV R) (kvc Tryz.prog 78 Tryz.f261.results.toList (Tryz.f261.body.getD .skip) (kv_table_rebuild.RV R) [([(0, [1, 1, 0, 1, 0, 0, 1, 0, 0, 1]), (1, [1]), (0, [1, 1, 0, 1, 0, 0, 1, 1]), (2, [1, 1, 0, 1, 0, 0]), (1, [0]), (0, [1, 1, 1])], fun σ w => dP (slotOf σ 0) fun t_ => dK (slotOf σ 2) fun keep_ => dI .i64 (slotOf σ 3) fun n_ => dI .i64 (slotOf σ 4) fun i_ => dB (slotOf σ 24) fun t24_ => sB1 t_ keep_ n_ i_ t24_ w),
    ([(0, [1, 1, 1, 0, 1, 0, 0]), (2, [1, 1, 1, 0, 1, 0, 0]), (1, [2]), (0, [1, 1, 1, 1])], fun σ w => dP (slotOf σ 0) fun t_ => dK (slotOf σ 2) fun keep_ => dI .i64 (slotOf σ 3) fun n_ => dI .i64 (slotOf σ 5) fun i_ => sL2 t_ keep_ n_ i_ w)] 2000) [(0, [1, 1, 0, 1, 0, 0]), (2, [1, 1, 0, 1, 0, 0]), (1, [0]), (0, [1, 1, 1])] [(0, .pointer t), (2, .pointer (some ⟨keep, 0, none⟩)), (3, .int .i64 n), (4, .int .i64 i)] w := by kernel_rfl
theorem kv_table_rebuild.L1b_sound {R : World → Prop} {N1 : Option Addr → Nat → Int → Int → World → Prop} (hN1 : ∀ t keep n i w, N1 t keep n i w → KW Tryz.prog 261 78 (kv_table_rebuild.RV R) ([(0, [1, 1, 0, 1, 0, 0]), (2, [1, 1, 0, 1, 0, 0]), (1, [0]), (0, [1, 1, 1])].map (toItem (Tryz.f261.body.getD .skip))) [(0, .pointer t), (2, .pointer (some ⟨keep, 0, none⟩)), (3, .int .i64 n), (4, .int .i64 i)] w) (t : Option Addr) (keep : Nat) (n i : Int) (w : World) (h : kv_table_rebuild.L1b t keep n i w  N1 R) :
    KW Tryz.prog 261 78 (kv_table_rebuild.RV R) ([(0, [1, 1, 0, 1, 0, 0]), (2, [1, 1, 0, 1, 0, 0]), (1, [0]), (0, [1, 1, 1])].map (toItem (Tryz.f261.body.getD .skip))) [(0, .pointer t), (2, .pointer (some ⟨keep, 0, none⟩)), (3, .int .i64 n), (4, .int .i64 i)] w := by
  exact block_spec Tryz.func261 Tryz.mixed (stops_cons (fun σ w h => by
      obtain ⟨t_, e0, h⟩ := dP_elim h
      obtain ⟨keep_, e1, h⟩ := dK_elim h
      obtain ⟨n_, e2, h⟩ := dI_elim h
      obtain ⟨i_, e3, h⟩ := dI_elim h
      obtain ⟨t24_, e4, h⟩ := dB_elim h
      exact (kv_table_rebuild.B1_sound hN1 t_ keep_ n_ i_ t24_ w h).weaken (Sub.cons (Sub.cons (Sub.cons (Sub.cons (Sub.cons (Sub.nil _) e4) e3) e2) e1) e0)) (stops_cons (fun σ w h => by
      obtain ⟨t_, e0, h⟩ := dP_elim h
      obtain ⟨keep_, e1, h⟩ := dK_elim h
      obtain ⟨n_, e2, h⟩ := dI_elim h
      obtain ⟨i_, e3, h⟩ := dI_elim h
      exact (kv_table_rebuild.L2_sound  t_ keep_ n_ i_ w h).weaken (Sub.cons (Sub.cons (Sub.cons (Sub.cons (Sub.nil _) e3) e2) e1) e0)) stops_nil)) (Eq.mp (kv_table_rebuild.L1b_eq t keep n i w  N1 R (fun t_ keep_ n_ i_ t24_ w => kv_table_rebuild.B1 t_ keep_ n_ i_ t24_ w N1 R) (fun t_ keep_ n_ i_ w => kv_table_rebuild.L2 t_ keep_ n_ i_ w  R)) h)
def kv_table_rebuild.L1 (t : Option Addr) (keep : Nat) (n i : Int) (w : World)  (R : World → Prop) : Prop :=
  ∃ (I : Nat → Option Addr → Nat → Int → Int → World → Prop) (m : Nat), I m t keep n i w ∧ ∀ m t keep n i w, I m t keep n i w → kv_table_rebuild.L1b t keep n i w  (fun t' keep' n' i' w' => ∃ m', m' < m ∧ I m' t' keep' n' i' w') R
theorem kv_table_rebuild.L1_sound {R : World → Prop}  (t : Option Addr) (keep : Nat) (n i : Int) (w : World) (h : kv_table_rebuild.L1 t keep n i w  R) :
    KW Tryz.prog 261 78 (kv_table_rebuild.RV R) ([(0, [1, 1, 0, 1, 0, 0]), (2, [1, 1, 0, 1, 0, 0]), (1, [0]), (0, [1, 1, 1])].map (toItem (Tryz.f261.body.getD .skip))) [(0, .pointer t), (2, .pointer (some ⟨keep, 0, none⟩)), (3, .int .i64 n), (4, .int .i64 i)] w := by
  obtain ⟨I, m, hBase, hr⟩ := h
  refine KW.loop (fun m σ w => ∃ (t : Option Addr) (keep : Nat) (n i : Int), σ = [(0, .pointer t), (2, .pointer (some ⟨keep, 0, none⟩)), (3, .int .i64 n), (4, .int .i64 i)] ∧ I m t keep n i w) ?_ m _ w ⟨t, keep, n, i, rfl, hBase⟩
  rintro m ih σ w ⟨t, keep, n, i, rfl, hI⟩
  exact kv_table_rebuild.L1b_sound  (N1 := fun t' keep' n' i' w' => ∃ m', m' < m ∧ I m' t' keep' n' i' w') (fun t' keep' n' i' w' hx => by obtain ⟨m', hlt, hI'⟩ := hx; exact ih m' hlt _ w' ⟨t', keep', n', i', rfl, hI'⟩) t keep n i w (hr m t keep n i w hI)
def kv_table_rebuild.B0 (t : Option Addr) (w : World)   (R : World → Prop) : Prop :=
  New (.cells #[.int .i64 (0 : Int), .int .i64 (0 : Int), .int .u8 (0 : Int), .int .u8 (0 : Int), .int .i64 (0 : Int), .int .u8 (0 : Int), .int .u8 (0 : Int), .int .u8 (0 : Int), .int .i64 (0 : Int), .int .i64 (0 : Int), .int .u8 (0 : Int), .int .u8 (0 : Int), .int .i64 (0 : Int), .int .u8 (0 : Int), .int .u8 (0 : Int), .int .u8 (0 : Int), .int .i64 (0 : Int), .int .i64 (0 : Int), .int .u8 (0 : Int), .int .u8 (0 : Int), .int .i64 (0 : Int), .int .u8 (0 : Int), .int .u8 (0 : Int), .int .u8 (0 : Int), .int .i64 (0 : Int), .int .i64 (0 : Int), .int .u8 (0 : Int), .int .u8 (0 : Int), .int .i64 (0 : Int), .int .u8 (0 : Int), .int .u8 (0 : Int), .int .u8 (0 : Int)] 275) w fun keep_ w1 =>
  kv_table_rebuild.L1 t keep_ (0 : Int) (0 : Int) w1  R
theorem kv_table_rebuild.B0_eq (t : Option Addr) (w : World)   (R : World → Prop) (sL1 : Option Addr → Nat → Int → Int → World → Prop) :
    (
  New (.cells #[.int .i64 (0 : Int), .int .i64 (0 : Int), .int .u8 (0 : Int), .int .u8 (0 : Int), .int .i64 (0 : Int), .int .u8 (0 : Int), .int .u8 (0 : Int), .int .u8 (0 : Int), .int .i64 (0 : Int), .int .i64 (0 : Int), .int .u8 (0 : Int), .int .u8 (0 : Int), .int .i64 (0 : Int), .int .u8 (0 : Int), .int .u8 (0 : Int), .int .u8 (0 : Int), .int .i64 (0 : Int), .int .i64 (0 : Int), .int .u8 (0 : Int), .int .u8 (0 : Int), .int .i64 (0 : Int), .int .u8 (0 : Int), .int .u8 (0 : Int), .int .u8 (0 : Int), .int .i64 (0 : Int), .int .i64 (0 : Int), .int .u8 (0 : Int), .int .u8 (0 : Int), .int .i64 (0 : Int), .int .u8 (0 : Int), .int .u8 (0 : Int), .int .u8 (0 : Int)] 275) w fun keep_ w1 =>
  sL1 t keep_ (0 : Int) (0 : Int) w1) = kstep Tryz.prog 78 Tryz.f261.results.toList (Tryz.f261.body.getD .skip) (kv_table_rebuild.RV R) (kvc Tryz.prog 78 Tryz.f261.results.toList (Tryz.f261.body.getD .skip) (kv_table_rebuild.RV R) [([(0, [1, 1, 0, 1, 0, 0]), (2, [1, 1, 0, 1, 0, 0]), (1, [0]), (0, [1, 1, 1])], fun σ w => dP (slotOf σ 0) fun t_ => dK (slotOf σ 2) fun keep_ => dI .i64 (slotOf σ 3) fun n_ => dI .i64 (slotOf σ 4) fun i_ => sL1 t_ keep_ n_ i_ w)] 2000) [(0, [])] [(0, .pointer t)] w := by kernel_rfl
theorem kv_table_rebuild.B0_sound {R : World → Prop}  (t : Option Addr) (w : World) (h : kv_table_rebuild.B0 t w   R) :
    KW Tryz.prog 261 78 (kv_table_rebuild.RV R) ([(0, [])].map (toItem (Tryz.f261.body.getD .skip))) [(0, .pointer t)] w := by
  exact block_spec Tryz.func261 Tryz.mixed (stops_cons (fun σ w h => by
      obtain ⟨t_, e0, h⟩ := dP_elim h
      obtain ⟨keep_, e1, h⟩ := dK_elim h
      obtain ⟨n_, e2, h⟩ := dI_elim h
      obtain ⟨i_, e3, h⟩ := dI_elim h
      exact (kv_table_rebuild.L1_sound  t_ keep_ n_ i_ w h).weaken (Sub.cons (Sub.cons (Sub.cons (Sub.cons (Sub.nil _) e3) e2) e1) e0)) stops_nil) (Eq.mp (kv_table_rebuild.B0_eq t w   R (fun t_ keep_ n_ i_ w => kv_table_rebuild.L1 t_ keep_ n_ i_ w  R)) h)
theorem kv_table_rebuild.sound (t : Option Addr) (w : World) (R : World → Prop) (h : kv_table_rebuild.B0 t w R) : kv_table_rebuild.Call t w R := by
  have hc := calls_of_block (args := #[.pointer t]) Tryz.func261 (body := (Tryz.f261.body.getD .skip)) (by kernel_rfl) (by kernel_rfl) (args_slot _) (kv_table_rebuild.B0_sound t w h)
  exact hc.mono fun e w' he => by
    obtain ⟨v, rfl, hv⟩ := he
    exact kv_table_rebuild.RV_elim hv
def store_Store_write.B0 (t : Option Addr) (b : Int) (x_b : Option Addr) (x_l x_c : Nat) (w : World)   (R : World → Prop) : Prop :=
  Pn t fun a =>
  (0 ≤ b ∧ b < ((14 : Nat) : Int)) ∧
  LdI .u8 (Addr.add (a.add 1) (b.toNat * 1)) w.drew fun x13 =>
  Pn t fun a_1 =>
  store_next.Call x13 w.drew fun r14 w1 =>
  (0 ≤ b ∧ b < ((14 : Nat) : Int)) ∧
  Sts [.int .u8 r14] (Addr.add (a_1.add 1) (b.toNat * 1)) 0 w1 fun w2 =>
  Pn t fun a_2 =>
  (0 ≤ b ∧ b < ((14 : Nat) : Int)) ∧
  LdI .u8 (Addr.add (a_2.add 1) (b.toNat * 1)) w2.drew fun x25 =>
  Pn t fun a_3 =>
  (0 ≤ b ∧ b < ((14 : Nat) : Int)) ∧
  LdI .u8 (Addr.add (a_3.add 1) (b.toNat * 1)) w2.drew fun x31 =>
  Pn x_b fun a_4 =>
  (0 ≤ (0 : Int) ∧ (0 : Int) < ((x_l : Nat) : Int)) ∧
  Sts [.int .u8 x25] a_4 0 w2.drew fun w3 =>
  Pn x_b fun a_5 =>
  (0 ≤ (63 : Int) ∧ (63 : Int) < ((x_l : Nat) : Int)) ∧
  Sts [.int .u8 x31] (a_5.add 63) 0 w3 fun w4 =>
  Pn t fun a_6 =>
  LdP a_6 w4.drew fun x37 =>
  ToStr x_b x_l w4.drew fun s40 =>
  w4.drew.cell? a_6 = some (.pointer x37) ∧
  diskm_Disk_Write.Call x37 b s40 w4.drew fun r41 w5 =>
  R  w5
theorem store_Store_write.B0_eq (t : Option Addr) (b : Int) (x_b : Option Addr) (x_l x_c : Nat) (w : World)   (R : World → Prop)  :
    (
  Pn t fun a =>
  (0 ≤ b ∧ b < ((14 : Nat) : Int)) ∧
  LdI .u8 (Addr.add (a.add 1) (b.toNat * 1)) w.drew fun x13 =>
  Pn t fun a_1 =>
  store_next.Call x13 w.drew fun r14 w1 =>
  (0 ≤ b ∧ b < ((14 : Nat) : Int)) ∧
  Sts [.int .u8 r14] (Addr.add (a_1.add 1) (b.toNat * 1)) 0 w1 fun w2 =>
  Pn t fun a_2 =>
  (0 ≤ b ∧ b < ((14 : Nat) : Int)) ∧
  LdI .u8 (Addr.add (a_2.add 1) (b.toNat * 1)) w2.drew fun x25 =>
  Pn t fun a_3 =>
  (0 ≤ b ∧ b < ((14 : Nat) : Int)) ∧
  LdI .u8 (Addr.add (a_3.add 1) (b.toNat * 1)) w2.drew fun x31 =>
  Pn x_b fun a_4 =>
  (0 ≤ (0 : Int) ∧ (0 : Int) < ((x_l : Nat) : Int)) ∧
  Sts [.int .u8 x25] a_4 0 w2.drew fun w3 =>
  Pn x_b fun a_5 =>
  (0 ≤ (63 : Int) ∧ (63 : Int) < ((x_l : Nat) : Int)) ∧
  Sts [.int .u8 x31] (a_5.add 63) 0 w3 fun w4 =>
  Pn t fun a_6 =>
  LdP a_6 w4.drew fun x37 =>
  ToStr x_b x_l w4.drew fun s40 =>
  w4.drew.cell? a_6 = some (.pointer x37) ∧
  diskm_Disk_Write.Call x37 b s40 w4.drew fun r41 w5 =>
  R  w5) = kstep Tryz.prog 42 Tryz.f262.results.toList (Tryz.f262.body.getD .skip) (store_Store_write.RV R) (kvc Tryz.prog 42 Tryz.f262.results.toList (Tryz.f262.body.getD .skip) (store_Store_write.RV R) [] 2000) [(0, [])] [(0, .pointer t), (1, .int .i64 b), (2, .slice x_b x_l x_c)] w := by kernel_rfl
theorem store_Store_write.B0_sound {R : World → Prop}  (t : Option Addr) (b : Int) (x_b : Option Addr) (x_l x_c : Nat) (w : World) (h : store_Store_write.B0 t b x_b x_l x_c w   R) :
    KW Tryz.prog 262 42 (store_Store_write.RV R) ([(0, [])].map (toItem (Tryz.f262.body.getD .skip))) [(0, .pointer t), (1, .int .i64 b), (2, .slice x_b x_l x_c)] w := by
  exact block_spec Tryz.func262 Tryz.mixed stops_nil (Eq.mp (store_Store_write.B0_eq t b x_b x_l x_c w   R ) h)
theorem store_Store_write.sound (t : Option Addr) (b : Int) (x_b : Option Addr) (x_l x_c : Nat) (w : World) (R : World → Prop) (h : store_Store_write.B0 t b x_b x_l x_c w R) : store_Store_write.Call t b x_b x_l x_c w R := by
  have hc := calls_of_block (args := #[.pointer t, .int .i64 b, .slice x_b x_l x_c]) Tryz.func262 (body := (Tryz.f262.body.getD .skip)) (by kernel_rfl) (by kernel_rfl) (args_slot _) (store_Store_write.B0_sound t b x_b x_l x_c w h)
  exact hc.mono fun e w' he => by
    obtain ⟨v, rfl, hv⟩ := he
    exact store_Store_write.RV_elim hv
def store_Store_SetMeta.B1 (t : Option Addr) (term vote : Int) (t21 : Bool) (w : World)   (R : Int → World → Prop) : Prop :=
  Bm t21 (
    R (1 : Int) w) (
    Pn t fun a =>
    LdI .i64 ((a.add 15).add 1) w fun x27 =>
    Pn t fun a_1 =>
    Sts [.bool true, .int .i64 (IntKind.i64.wrap (x27 + (1 : Int))), .int .i64 term, .int .i64 vote] (a_1.add 15) 0 w fun w1 =>
    Pn t fun a_2 =>
    LdI .i64 (a_2.add 19) w1 fun x38 =>
    Pn t fun a_3 =>
    Sts [.int .i64 (IntKind.i64.wrap ((1 : Int) - x38))] (a_3.add 19) 0 w1 fun w2 =>
    Pn t fun a_4 =>
    LdB (a_4.add 15) w2 fun x45_0 =>
    LdI .i64 ((a_4.add 15).add 1) w2 fun x45_1 =>
    LdI .i64 ((a_4.add 15).add 2) w2 fun x45_2 =>
    LdI .i64 ((a_4.add 15).add 3) w2 fun x45_3 =>
    store_encMeta.Call x45_0 x45_1 x45_2 x45_3 w2 fun r46_b r46_l r46_c w3 =>
    Pn t fun a_5 =>
    LdI .i64 (a_5.add 19) w3 fun x51 =>
    store_Store_write.Call t (IntKind.i64.wrap ((0 : Int) + x51)) r46_b r46_l r46_c w3 fun w4 =>
    R (0 : Int) w4)
theorem store_Store_SetMeta.B1_eq (t : Option Addr) (term vote : Int) (t21 : Bool) (w : World)   (R : Int → World → Prop)  :
    (
  Bm t21 (
    R (1 : Int) w) (
    Pn t fun a =>
    LdI .i64 ((a.add 15).add 1) w fun x27 =>
    Pn t fun a_1 =>
    Sts [.bool true, .int .i64 (IntKind.i64.wrap (x27 + (1 : Int))), .int .i64 term, .int .i64 vote] (a_1.add 15) 0 w fun w1 =>
    Pn t fun a_2 =>
    LdI .i64 (a_2.add 19) w1 fun x38 =>
    Pn t fun a_3 =>
    Sts [.int .i64 (IntKind.i64.wrap ((1 : Int) - x38))] (a_3.add 19) 0 w1 fun w2 =>
    Pn t fun a_4 =>
    LdB (a_4.add 15) w2 fun x45_0 =>
    LdI .i64 ((a_4.add 15).add 1) w2 fun x45_1 =>
    LdI .i64 ((a_4.add 15).add 2) w2 fun x45_2 =>
    LdI .i64 ((a_4.add 15).add 3) w2 fun x45_3 =>
    store_encMeta.Call x45_0 x45_1 x45_2 x45_3 w2 fun r46_b r46_l r46_c w3 =>
    Pn t fun a_5 =>
    LdI .i64 (a_5.add 19) w3 fun x51 =>
    store_Store_write.Call t (IntKind.i64.wrap ((0 : Int) + x51)) r46_b r46_l r46_c w3 fun w4 =>
    R (0 : Int) w4)) = kstep Tryz.prog 55 Tryz.f263.results.toList (Tryz.f263.body.getD .skip) (store_Store_SetMeta.RV R) (kvc Tryz.prog 55 Tryz.f263.results.toList (Tryz.f263.body.getD .skip) (store_Store_SetMeta.RV R) [] 2000) [(0, [1, 0, 1]), (0, [1, 1])] [(0, .pointer t), (1, .int .i64 term), (2, .int .i64 vote), (21, .bool t21)] w := by kernel_rfl
theorem store_Store_SetMeta.B1_sound {R : Int → World → Prop}  (t : Option Addr) (term vote : Int) (t21 : Bool) (w : World) (h : store_Store_SetMeta.B1 t term vote t21 w   R) :
    KW Tryz.prog 263 55 (store_Store_SetMeta.RV R) ([(0, [1, 0, 1]), (0, [1, 1])].map (toItem (Tryz.f263.body.getD .skip))) [(0, .pointer t), (1, .int .i64 term), (2, .int .i64 vote), (21, .bool t21)] w := by
  exact block_spec Tryz.func263 Tryz.mixed stops_nil (Eq.mp (store_Store_SetMeta.B1_eq t term vote t21 w   R ) h)
def store_Store_SetMeta.B0 (t : Option Addr) (term vote : Int) (w : World)   (R : Int → World → Prop) : Prop :=
  Bm (decide (term < (0 : Int))) (
    store_Store_SetMeta.B1 t term vote true w  R) (
    Bm (decide (term > (72057594037927936 : Int))) (
      store_Store_SetMeta.B1 t term vote true w  R) (
      Bm (decide (vote < (-1 : Int))) (
        store_Store_SetMeta.B1 t term vote true w  R) (
        store_Store_SetMeta.B1 t term vote (decide (vote ≥ (3 : Int))) w  R)))
theorem store_Store_SetMeta.B0_eq (t : Option Addr) (term vote : Int) (w : World)   (R : Int → World → Prop) (sB1 : Option Addr → Int → Int → Bool → World → Prop) :
    (
  Bm (decide (term < (0 : Int))) (
    sB1 t term vote true w) (
    Bm (decide (term > (72057594037927936 : Int))) (
      sB1 t term vote true w) (
      Bm (decide (vote < (-1 : Int))) (
        sB1 t term vote true w) (
        sB1 t term vote (decide (vote ≥ (3 : Int))) w)))) = kstep Tryz.prog 55 Tryz.f263.results.toList (Tryz.f263.body.getD .skip) (store_Store_SetMeta.RV R) (kvc Tryz.prog 55 Tryz.f263.results.toList (Tryz.f263.body.getD .skip) (store_Store_SetMeta.RV R) [([(0, [1, 0, 1]), (0, [1, 1])], fun σ w => dP (slotOf σ 0) fun t_ => dI .i64 (slotOf σ 1) fun term_ => dI .i64 (slotOf σ 2) fun vote_ => dB (slotOf σ 21) fun t21_ => sB1 t_ term_ vote_ t21_ w)] 2000) [(0, [])] [(0, .pointer t), (1, .int .i64 term), (2, .int .i64 vote)] w := by kernel_rfl
theorem store_Store_SetMeta.B0_sound {R : Int → World → Prop}  (t : Option Addr) (term vote : Int) (w : World) (h : store_Store_SetMeta.B0 t term vote w   R) :
    KW Tryz.prog 263 55 (store_Store_SetMeta.RV R) ([(0, [])].map (toItem (Tryz.f263.body.getD .skip))) [(0, .pointer t), (1, .int .i64 term), (2, .int .i64 vote)] w := by
  exact block_spec Tryz.func263 Tryz.mixed (stops_cons (fun σ w h => by
      obtain ⟨t_, e0, h⟩ := dP_elim h
      obtain ⟨term_, e1, h⟩ := dI_elim h
      obtain ⟨vote_, e2, h⟩ := dI_elim h
      obtain ⟨t21_, e3, h⟩ := dB_elim h
      exact (store_Store_SetMeta.B1_sound  t_ term_ vote_ t21_ w h).weaken (Sub.cons (Sub.cons (Sub.cons (Sub.cons (Sub.nil _) e3) e2) e1) e0)) stops_nil) (Eq.mp (store_Store_SetMeta.B0_eq t term vote w   R (fun t_ term_ vote_ t21_ w => store_Store_SetMeta.B1 t_ term_ vote_ t21_ w  R)) h)
theorem store_Store_SetMeta.sound (t : Option Addr) (term vote : Int) (w : World) (R : Int → World → Prop) (h : store_Store_SetMeta.B0 t term vote w R) : store_Store_SetMeta.Call t term vote w R := by
  have hc := calls_of_block (args := #[.pointer t, .int .i64 term, .int .i64 vote]) Tryz.func263 (body := (Tryz.f263.body.getD .skip)) (by kernel_rfl) (by kernel_rfl) (args_slot _) (store_Store_SetMeta.B0_sound t term vote w h)
  exact hc.mono fun e w' he => by
    obtain ⟨v, rfl, hv⟩ := he
    exact store_Store_SetMeta.RV_elim hv
def kv_appendStr.L1b (b_b : Option Addr) (b_l b_c : Nat) (s : ByteArray) (i : Int) (w : World)  (N1 : Option Addr → Nat → Nat → ByteArray → Int → World → Prop) (R : Option Addr → Nat → Nat → World → Prop) : Prop :=
  Bm (decide (i < ((s.size : Nat) : Int))) (
    (0 ≤ i ∧ i < ((s.size : Nat) : Int)) ∧
    New (.cells #[.int .u8 (byteAt s i)] 5) w fun b22 w1 =>
    Append 5 (.int .u8 (0 : Int)) 1 1 b_b b_l b_c (some ⟨b22, 0, none⟩) 1 w1 fun b23 c23 w2 =>
    N1 b23 (b_l + 1) c23 s (IntKind.i64.wrap (i + (1 : Int))) w2) (
    R b_b b_l b_c w)
theorem kv_appendStr.L1b_eq (b_b : Option Addr) (b_l b_c : Nat) (s : ByteArray) (i : Int) (w : World)  (N1 : Option Addr → Nat → Nat → ByteArray → Int → World → Prop) (R : Option Addr → Nat → Nat → World → Prop)  :
    (
  Bm (decide (i < ((s.size : Nat) : Int))) (
    (0 ≤ i ∧ i < ((s.size : Nat) : Int)) ∧
    New (.cells #[.int .u8 (byteAt s i)] 5) w fun b22 w1 =>
    Append 5 (.int .u8 (0 : Int)) 1 1 b_b b_l b_c (some ⟨b22, 0, none⟩) 1 w1 fun b23 c23 w2 =>
    N1 b23 (b_l + 1) c23 s (IntKind.i64.wrap (i + (1 : Int))) w2) (
    R b_b b_l b_c w)) = kstep Tryz.prog 25 Tryz.f264.results.toList (Tryz.f264.body.getD .skip) (kv_appendStr.RV R) (kvc Tryz.prog 25 Tryz.f264.results.toList (Tryz.f264.body.getD .skip) (kv_appendStr.RV R) [([(0, [1, 1, 0, 1, 0, 0]), (2, [1, 1, 0, 1, 0, 0]), (1, [0]), (0, [1, 1, 1])], fun σ w => dL (slotOf σ 0) fun b_b_ b_l_ b_c_ => dS (slotOf σ 1) fun s_ => dI .i64 (slotOf σ 5) fun i_ => N1 b_b_ b_l_ b_c_ s_ i_ w)] 2000) [(0, [1, 1, 0, 1, 0, 0]), (2, [1, 1, 0, 1, 0, 0]), (1, [0]), (0, [1, 1, 1])] [(0, .slice b_b b_l b_c), (1, .string s), (5, .int .i64 i)] w := by kernel_rfl
theorem kv_appendStr.L1b_sound {R : Option Addr → Nat → Nat → World → Prop} {N1 : Option Addr → Nat → Nat → ByteArray → Int → World → Prop} (hN1 : ∀ b_b b_l b_c s i w, N1 b_b b_l b_c s i w → KW Tryz.prog 264 25 (kv_appendStr.RV R) ([(0, [1, 1, 0, 1, 0, 0]), (2, [1, 1, 0, 1, 0, 0]), (1, [0]), (0, [1, 1, 1])].map (toItem (Tryz.f264.body.getD .skip))) [(0, .slice b_b b_l b_c), (1, .string s), (5, .int .i64 i)] w) (b_b : Option Addr) (b_l b_c : Nat) (s : ByteArray) (i : Int) (w : World) (h : kv_appendStr.L1b b_b b_l b_c s i w  N1 R) :
    KW Tryz.prog 264 25 (kv_appendStr.RV R) ([(0, [1, 1, 0, 1, 0, 0]), (2, [1, 1, 0, 1, 0, 0]), (1, [0]), (0, [1, 1, 1])].map (toItem (Tryz.f264.body.getD .skip))) [(0, .slice b_b b_l b_c), (1, .string s), (5, .int .i64 i)] w := by
  exact block_spec Tryz.func264 Tryz.mixed (stops_cons (fun σ w h => by
      obtain ⟨b_b_, b_l_, b_c_, e0, h⟩ := dL_elim h
      obtain ⟨s_, e1, h⟩ := dS_elim h
      obtain ⟨i_, e2, h⟩ := dI_elim h
      exact (hN1 b_b_ b_l_ b_c_ s_ i_ w h).weaken (Sub.cons (Sub.cons (Sub.cons (Sub.nil _) e2) e1) e0)) stops_nil) (Eq.mp (kv_appendStr.L1b_eq b_b b_l b_c s i w  N1 R ) h)
def kv_appendStr.L1 (b_b : Option Addr) (b_l b_c : Nat) (s : ByteArray) (i : Int) (w : World)  (R : Option Addr → Nat → Nat → World → Prop) : Prop :=
  ∃ (I : Nat → Option Addr → Nat → Nat → ByteArray → Int → World → Prop) (m : Nat), I m b_b b_l b_c s i w ∧ ∀ m b_b b_l b_c s i w, I m b_b b_l b_c s i w → kv_appendStr.L1b b_b b_l b_c s i w  (fun b_b' b_l' b_c' s' i' w' => ∃ m', m' < m ∧ I m' b_b' b_l' b_c' s' i' w') R
theorem kv_appendStr.L1_sound {R : Option Addr → Nat → Nat → World → Prop}  (b_b : Option Addr) (b_l b_c : Nat) (s : ByteArray) (i : Int) (w : World) (h : kv_appendStr.L1 b_b b_l b_c s i w  R) :
    KW Tryz.prog 264 25 (kv_appendStr.RV R) ([(0, [1, 1, 0, 1, 0, 0]), (2, [1, 1, 0, 1, 0, 0]), (1, [0]), (0, [1, 1, 1])].map (toItem (Tryz.f264.body.getD .skip))) [(0, .slice b_b b_l b_c), (1, .string s), (5, .int .i64 i)] w := by
  obtain ⟨I, m, hBase, hr⟩ := h
  refine KW.loop (fun m σ w => ∃ (b_b : Option Addr) (b_l b_c : Nat) (s : ByteArray) (i : Int), σ = [(0, .slice b_b b_l b_c), (1, .string s), (5, .int .i64 i)] ∧ I m b_b b_l b_c s i w) ?_ m _ w ⟨b_b, b_l, b_c, s, i, rfl, hBase⟩
  rintro m ih σ w ⟨b_b, b_l, b_c, s, i, rfl, hI⟩
  exact kv_appendStr.L1b_sound  (N1 := fun b_b' b_l' b_c' s' i' w' => ∃ m', m' < m ∧ I m' b_b' b_l' b_c' s' i' w') (fun b_b' b_l' b_c' s' i' w' hx => by obtain ⟨m', hlt, hI'⟩ := hx; exact ih m' hlt _ w' ⟨b_b', b_l', b_c', s', i', rfl, hI'⟩) b_b b_l b_c s i w (hr m b_b b_l b_c s i w hI)
def kv_appendStr.B0 (b_b : Option Addr) (b_l b_c : Nat) (s : ByteArray) (w : World)   (R : Option Addr → Nat → Nat → World → Prop) : Prop :=
  New (.cells #[.int .u8 (IntKind.u8.wrap ((s.size : Nat) : Int))] 5) w fun b10 w1 =>
  Append 5 (.int .u8 (0 : Int)) 1 1 b_b b_l b_c (some ⟨b10, 0, none⟩) 1 w1 fun b11 c11 w2 =>
  kv_appendStr.L1 b11 (b_l + 1) c11 s (0 : Int) w2  R
theorem kv_appendStr.B0_eq (b_b : Option Addr) (b_l b_c : Nat) (s : ByteArray) (w : World)   (R : Option Addr → Nat → Nat → World → Prop) (sL1 : Option Addr → Nat → Nat → ByteArray → Int → World → Prop) :
    (
  New (.cells #[.int .u8 (IntKind.u8.wrap ((s.size : Nat) : Int))] 5) w fun b10 w1 =>
  Append 5 (.int .u8 (0 : Int)) 1 1 b_b b_l b_c (some ⟨b10, 0, none⟩) 1 w1 fun b11 c11 w2 =>
  sL1 b11 (b_l + 1) c11 s (0 : Int) w2) = kstep Tryz.prog 25 Tryz.f264.results.toList (Tryz.f264.body.getD .skip) (kv_appendStr.RV R) (kvc Tryz.prog 25 Tryz.f264.results.toList (Tryz.f264.body.getD .skip) (kv_appendStr.RV R) [([(0, [1, 1, 0, 1, 0, 0]), (2, [1, 1, 0, 1, 0, 0]), (1, [0]), (0, [1, 1, 1])], fun σ w => dL (slotOf σ 0) fun b_b_ b_l_ b_c_ => dS (slotOf σ 1) fun s_ => dI .i64 (slotOf σ 5) fun i_ => sL1 b_b_ b_l_ b_c_ s_ i_ w)] 2000) [(0, [])] [(0, .slice b_b b_l b_c), (1, .string s)] w := by kernel_rfl
theorem kv_appendStr.B0_sound {R : Option Addr → Nat → Nat → World → Prop}  (b_b : Option Addr) (b_l b_c : Nat) (s : ByteArray) (w : World) (h : kv_appendStr.B0 b_b b_l b_c s w   R) :
    KW Tryz.prog 264 25 (kv_appendStr.RV R) ([(0, [])].map (toItem (Tryz.f264.body.getD .skip))) [(0, .slice b_b b_l b_c), (1, .string s)] w := by
  exact block_spec Tryz.func264 Tryz.mixed (stops_cons (fun σ w h => by
      obtain ⟨b_b_, b_l_, b_c_, e0, h⟩ := dL_elim h
      obtain ⟨s_, e1, h⟩ := dS_elim h
      obtain ⟨i_, e2, h⟩ := dI_elim h
      exact (kv_appendStr.L1_sound  b_b_ b_l_ b_c_ s_ i_ w h).weaken (Sub.cons (Sub.cons (Sub.cons (Sub.nil _) e2) e1) e0)) stops_nil) (Eq.mp (kv_appendStr.B0_eq b_b b_l b_c s w   R (fun b_b_ b_l_ b_c_ s_ i_ w => kv_appendStr.L1 b_b_ b_l_ b_c_ s_ i_ w  R)) h)
theorem kv_appendStr.sound (b_b : Option Addr) (b_l b_c : Nat) (s : ByteArray) (w : World) (R : Option Addr → Nat → Nat → World → Prop) (h : kv_appendStr.B0 b_b b_l b_c s w R) : kv_appendStr.Call b_b b_l b_c s w R := by
  have hc := calls_of_block (args := #[.slice b_b b_l b_c, .string s]) Tryz.func264 (body := (Tryz.f264.body.getD .skip)) (by kernel_rfl) (by kernel_rfl) (args_slot _) (kv_appendStr.B0_sound b_b b_l b_c s w h)
  exact hc.mono fun e w' he => by
    obtain ⟨v, rfl, hv⟩ := he
    exact kv_appendStr.RV_elim hv
def rlog_Log_Compact.B0 (l : Option Addr) (upTo : Int) (snap : ByteArray) (w : World)   (R : Int → World → Prop) : Prop :=
  Bm (decide (((snap.size : Nat) : Int) > (128 : Int))) (
    R (5 : Int) w) (
    Pn l fun a =>
    LdI .i64 (a.add 3) w fun x15 =>
    Bm (decide (upTo ≤ x15)) (
      R (7 : Int) w) (
      Pn l fun a_1 =>
      LdI .i64 (a_1.add 6) w fun x21 =>
      Bm (decide (upTo > x21)) (
        R (2 : Int) w) (
        rlog_slotOf.Call upTo w fun r24 w1 =>
        Pn l fun a_2 =>
        (0 ≤ r24 ∧ r24 < ((6 : Nat) : Int)) ∧
        LdI .i64 (Addr.add (a_2.add 7) (r24.toNat * 1)) w1 fun x32 =>
        rlog_Log_rebase.Call l upTo x32 snap w1 fun r34 w2 =>
        R r34 w2)))
theorem rlog_Log_Compact.B0_eq (l : Option Addr) (upTo : Int) (snap : ByteArray) (w : World)   (R : Int → World → Prop)  :
    (
  Bm (decide (((snap.size : Nat) : Int) > (128 : Int))) (
    R (5 : Int) w) (
    Pn l fun a =>
    LdI .i64 (a.add 3) w fun x15 =>
    Bm (decide (upTo ≤ x15)) (
      R (7 : Int) w) (
      Pn l fun a_1 =>
      LdI .i64 (a_1.add 6) w fun x21 =>
      Bm (decide (upTo > x21)) (
        R (2 : Int) w) (
        rlog_slotOf.Call upTo w fun r24 w1 =>
        Pn l fun a_2 =>
        (0 ≤ r24 ∧ r24 < ((6 : Nat) : Int)) ∧
        LdI .i64 (Addr.add (a_2.add 7) (r24.toNat * 1)) w1 fun x32 =>
        rlog_Log_rebase.Call l upTo x32 snap w1 fun r34 w2 =>
        R r34 w2)))) = kstep Tryz.prog 35 Tryz.f265.results.toList (Tryz.f265.body.getD .skip) (rlog_Log_Compact.RV R) (kvc Tryz.prog 35 Tryz.f265.results.toList (Tryz.f265.body.getD .skip) (rlog_Log_Compact.RV R) [] 2000) [(0, [])] [(0, .pointer l), (1, .int .i64 upTo), (2, .string snap)] w := by kernel_rfl
theorem rlog_Log_Compact.B0_sound {R : Int → World → Prop}  (l : Option Addr) (upTo : Int) (snap : ByteArray) (w : World) (h : rlog_Log_Compact.B0 l upTo snap w   R) :
    KW Tryz.prog 265 35 (rlog_Log_Compact.RV R) ([(0, [])].map (toItem (Tryz.f265.body.getD .skip))) [(0, .pointer l), (1, .int .i64 upTo), (2, .string snap)] w := by
  exact block_spec Tryz.func265 Tryz.mixed stops_nil (Eq.mp (rlog_Log_Compact.B0_eq l upTo snap w   R ) h)
theorem rlog_Log_Compact.sound (l : Option Addr) (upTo : Int) (snap : ByteArray) (w : World) (R : Int → World → Prop) (h : rlog_Log_Compact.B0 l upTo snap w R) : rlog_Log_Compact.Call l upTo snap w R := by
  have hc := calls_of_block (args := #[.pointer l, .int .i64 upTo, .string snap]) Tryz.func265 (body := (Tryz.f265.body.getD .skip)) (by kernel_rfl) (by kernel_rfl) (args_slot _) (rlog_Log_Compact.B0_sound l upTo snap w h)
  exact hc.mono fun e w' he => by
    obtain ⟨v, rfl, hv⟩ := he
    exact rlog_Log_Compact.RV_elim hv
def kv_KV_run.B0 (k : Option Addr) (c_0 c_1 c_2 : Int) (c_3 c_4 c_5 : ByteArray) (w : World)   (R : Int → ByteArray → World → Prop) : Prop :=
  New (.cells #[.int .i64 c_0, .int .i64 c_1, .int .i64 c_2, .string c_3, .string c_4, .string c_5] 87) w fun c_ w1 =>
  New (.cells #[.int .i64 (0 : Int), .string (ByteArray.mk #[])] 93) w1 fun b4 w2 =>
  Pn k fun a =>
  LdS ⟨c_, 3, none⟩ w2.drew fun x11 =>
  kv_table_find.Call (some a) x11 w2.drew fun r12 w3 =>
  LdI .i64 ⟨c_, 0, none⟩ w3 fun x14 =>
  Bm (x14 == (1 : Int)) (
    LdI .i64 ⟨c_, 0, none⟩ w3 fun x18_0 =>
    LdI .i64 ⟨c_, 1, none⟩ w3 fun x18_1 =>
    LdI .i64 ⟨c_, 2, none⟩ w3 fun x18_2 =>
    LdS ⟨c_, 3, none⟩ w3 fun x18_3 =>
    LdS ⟨c_, 4, none⟩ w3 fun x18_4 =>
    LdS ⟨c_, 5, none⟩ w3 fun x18_5 =>
    kv_KV_put.Call k r12 x18_0 x18_1 x18_2 x18_3 x18_4 x18_5 w3 fun r19_0 r19_1 w4 =>
    Sts [.int .i64 r19_0, .string r19_1] ⟨b4, 0, none⟩ 0 w4 fun w5 =>
    LdI .i64 ⟨b4, 0, none⟩ w5 fun r_0 =>
    LdS ⟨b4, 1, none⟩ w5 fun r_1 =>
    R r_0 r_1 w5) (
    Bm (decide (r12 < (0 : Int))) (
      Sts [.int .i64 (2 : Int), .string (ByteArray.mk #[])] ⟨b4, 0, none⟩ 0 w3 fun w6 =>
      LdI .i64 ⟨b4, 0, none⟩ w6 fun r_0_1 =>
      LdS ⟨b4, 1, none⟩ w6 fun r_1_1 =>
      R r_0_1 r_1_1 w6) (
      Pn k fun a_1 =>
      (0 ≤ r12 ∧ r12 < ((8 : Nat) : Int)) ∧
      LdI .i64 (Addr.add a_1 (r12.toNat * 8)) w3 fun x29_0 =>
      LdI .i64 ((Addr.add a_1 (r12.toNat * 8)).add 1) w3 fun x29_1 =>
      LdI .u8 ((Addr.add a_1 (r12.toNat * 8)).add 2) w3 fun x29_2 =>
      LdI .u8 ((Addr.add a_1 (r12.toNat * 8)).add 3) w3 fun x29_3 =>
      LdI .i64 ((Addr.add a_1 (r12.toNat * 8)).add 4) w3 fun x29_4 =>
      LdI .u8 ((Addr.add a_1 (r12.toNat * 8)).add 5) w3 fun x29_5 =>
      LdI .u8 ((Addr.add a_1 (r12.toNat * 8)).add 6) w3 fun x29_6 =>
      LdI .u8 ((Addr.add a_1 (r12.toNat * 8)).add 7) w3 fun x29_7 =>
      kv_valOf.Call x29_0 x29_1 x29_2 x29_3 x29_4 x29_5 x29_6 x29_7 w3 fun r30 w7 =>
      LdI .i64 ⟨c_, 0, none⟩ w7 fun x32 =>
      Bm (x32 == (2 : Int)) (
        Sts [.int .i64 (0 : Int), .string r30] ⟨b4, 0, none⟩ 0 w7 fun w8 =>
        LdI .i64 ⟨b4, 0, none⟩ w8 fun r_0_2 =>
        LdS ⟨b4, 1, none⟩ w8 fun r_1_2 =>
        R r_0_2 r_1_2 w8) (
        LdI .i64 ⟨c_, 0, none⟩ w7 fun x37 =>
        Bm (x37 == (3 : Int)) (
          Pn k fun a_2 =>
          kv_table_drop.Call (some a_2) r12 w7 fun w9 =>
          Sts [.int .i64 (0 : Int), .string r30] ⟨b4, 0, none⟩ 0 w9 fun w10 =>
          LdI .i64 ⟨b4, 0, none⟩ w10 fun r_0_3 =>
          LdS ⟨b4, 1, none⟩ w10 fun r_1_3 =>
          R r_0_3 r_1_3 w10) (
          LdS ⟨c_, 5, none⟩ w7 fun x48 =>
          Bm (!(r30.toList == x48.toList)) (
            Sts [.int .i64 (11 : Int), .string r30] ⟨b4, 0, none⟩ 0 w7 fun w11 =>
            LdI .i64 ⟨b4, 0, none⟩ w11 fun r_0_4 =>
            LdS ⟨b4, 1, none⟩ w11 fun r_1_4 =>
            R r_0_4 r_1_4 w11) (
            LdS ⟨c_, 3, none⟩ w7.drew fun x55 =>
            LdS ⟨c_, 4, none⟩ w7.drew fun x57 =>
            Pn k fun a_3 =>
            kv_mkCell.Call x55 x57 w7.drew fun r58_0 r58_1 r58_2 r58_3 r58_4 r58_5 r58_6 r58_7 w12 =>
            (0 ≤ r12 ∧ r12 < ((8 : Nat) : Int)) ∧
            Sts [.int .i64 r58_0, .int .i64 r58_1, .int .u8 r58_2, .int .u8 r58_3, .int .i64 r58_4, .int .u8 r58_5, .int .u8 r58_6, .int .u8 r58_7] (Addr.add a_3 (r12.toNat * 8)) 0 w12 fun w13 =>
            Sts [.int .i64 (0 : Int), .string (ByteArray.mk #[])] ⟨b4, 0, none⟩ 0 w13 fun w14 =>
            LdI .i64 ⟨b4, 0, none⟩ w14 fun r_0_5 =>
            LdS ⟨b4, 1, none⟩ w14 fun r_1_5 =>
            R r_0_5 r_1_5 w14)))))
theorem kv_KV_run.B0_eq (k : Option Addr) (c_0 c_1 c_2 : Int) (c_3 c_4 c_5 : ByteArray) (w : World)   (R : Int → ByteArray → World → Prop)  :
    (
  New (.cells #[.int .i64 c_0, .int .i64 c_1, .int .i64 c_2, .string c_3, .string c_4, .string c_5] 87) w fun c_ w1 =>
  New (.cells #[.int .i64 (0 : Int), .string (ByteArray.mk #[])] 93) w1 fun b4 w2 =>
  Pn k fun a =>
  LdS ⟨c_, 3, none⟩ w2.drew fun x11 =>
  kv_table_find.Call (some a) x11 w2.drew fun r12 w3 =>
  LdI .i64 ⟨c_, 0, none⟩ w3 fun x14 =>
  Bm (x14 == (1 : Int)) (
    LdI .i64 ⟨c_, 0, none⟩ w3 fun x18_0 =>
    LdI .i64 ⟨c_, 1, none⟩ w3 fun x18_1 =>
    LdI .i64 ⟨c_, 2, none⟩ w3 fun x18_2 =>
    LdS ⟨c_, 3, none⟩ w3 fun x18_3 =>
    LdS ⟨c_, 4, none⟩ w3 fun x18_4 =>
    LdS ⟨c_, 5, none⟩ w3 fun x18_5 =>
    kv_KV_put.Call k r12 x18_0 x18_1 x18_2 x18_3 x18_4 x18_5 w3 fun r19_0 r19_1 w4 =>
    Sts [.int .i64 r19_0, .string r19_1] ⟨b4, 0, none⟩ 0 w4 fun w5 =>
    LdI .i64 ⟨b4, 0, none⟩ w5 fun r_0 =>
    LdS ⟨b4, 1, none⟩ w5 fun r_1 =>
    R r_0 r_1 w5) (
    Bm (decide (r12 < (0 : Int))) (
      Sts [.int .i64 (2 : Int), .string (ByteArray.mk #[])] ⟨b4, 0, none⟩ 0 w3 fun w6 =>
      LdI .i64 ⟨b4, 0, none⟩ w6 fun r_0_1 =>
      LdS ⟨b4, 1, none⟩ w6 fun r_1_1 =>
      R r_0_1 r_1_1 w6) (
      Pn k fun a_1 =>
      (0 ≤ r12 ∧ r12 < ((8 : Nat) : Int)) ∧
      LdI .i64 (Addr.add a_1 (r12.toNat * 8)) w3 fun x29_0 =>
      LdI .i64 ((Addr.add a_1 (r12.toNat * 8)).add 1) w3 fun x29_1 =>
      LdI .u8 ((Addr.add a_1 (r12.toNat * 8)).add 2) w3 fun x29_2 =>
      LdI .u8 ((Addr.add a_1 (r12.toNat * 8)).add 3) w3 fun x29_3 =>
      LdI .i64 ((Addr.add a_1 (r12.toNat * 8)).add 4) w3 fun x29_4 =>
      LdI .u8 ((Addr.add a_1 (r12.toNat * 8)).add 5) w3 fun x29_5 =>
      LdI .u8 ((Addr.add a_1 (r12.toNat * 8)).add 6) w3 fun x29_6 =>
      LdI .u8 ((Addr.add a_1 (r12.toNat * 8)).add 7) w3 fun x29_7 =>
      kv_valOf.Call x29_0 x29_1 x29_2 x29_3 x29_4 x29_5 x29_6 x29_7 w3 fun r30 w7 =>
      LdI .i64 ⟨c_, 0, none⟩ w7 fun x32 =>
      Bm (x32 == (2 : Int)) (
        Sts [.int .i64 (0 : Int), .string r30] ⟨b4, 0, none⟩ 0 w7 fun w8 =>
        LdI .i64 ⟨b4, 0, none⟩ w8 fun r_0_2 =>
        LdS ⟨b4, 1, none⟩ w8 fun r_1_2 =>
        R r_0_2 r_1_2 w8) (
        LdI .i64 ⟨c_, 0, none⟩ w7 fun x37 =>
        Bm (x37 == (3 : Int)) (
          Pn k fun a_2 =>
          kv_table_drop.Call (some a_2) r12 w7 fun w9 =>
          Sts [.int .i64 (0 : Int), .string r30] ⟨b4, 0, none⟩ 0 w9 fun w10 =>
          LdI .i64 ⟨b4, 0, none⟩ w10 fun r_0_3 =>
          LdS ⟨b4, 1, none⟩ w10 fun r_1_3 =>
          R r_0_3 r_1_3 w10) (
          LdS ⟨c_, 5, none⟩ w7 fun x48 =>
          Bm (!(r30.toList == x48.toList)) (
            Sts [.int .i64 (11 : Int), .string r30] ⟨b4, 0, none⟩ 0 w7 fun w11 =>
            LdI .i64 ⟨b4, 0, none⟩ w11 fun r_0_4 =>
            LdS ⟨b4, 1, none⟩ w11 fun r_1_4 =>
            R r_0_4 r_1_4 w11) (
            LdS ⟨c_, 3, none⟩ w7.drew fun x55 =>
            LdS ⟨c_, 4, none⟩ w7.drew fun x57 =>
            Pn k fun a_3 =>
            kv_mkCell.Call x55 x57 w7.drew fun r58_0 r58_1 r58_2 r58_3 r58_4 r58_5 r58_6 r58_7 w12 =>
            (0 ≤ r12 ∧ r12 < ((8 : Nat) : Int)) ∧
            Sts [.int .i64 r58_0, .int .i64 r58_1, .int .u8 r58_2, .int .u8 r58_3, .int .i64 r58_4, .int .u8 r58_5, .int .u8 r58_6, .int .u8 r58_7] (Addr.add a_3 (r12.toNat * 8)) 0 w12 fun w13 =>
            Sts [.int .i64 (0 : Int), .string (ByteArray.mk #[])] ⟨b4, 0, none⟩ 0 w13 fun w14 =>
            LdI .i64 ⟨b4, 0, none⟩ w14 fun r_0_5 =>
            LdS ⟨b4, 1, none⟩ w14 fun r_1_5 =>
            R r_0_5 r_1_5 w14)))))) = kstep Tryz.prog 64 Tryz.f266.results.toList (Tryz.f266.body.getD .skip) (kv_KV_run.RV R) (kvc Tryz.prog 64 Tryz.f266.results.toList (Tryz.f266.body.getD .skip) (kv_KV_run.RV R) [] 2000) [(0, [])] [(0, .pointer k), (1, .agg #[.int .i64 c_0, .int .i64 c_1, .int .i64 c_2, .string c_3, .string c_4, .string c_5])] w := by kernel_rfl
theorem kv_KV_run.B0_sound {R : Int → ByteArray → World → Prop}  (k : Option Addr) (c_0 c_1 c_2 : Int) (c_3 c_4 c_5 : ByteArray) (w : World) (h : kv_KV_run.B0 k c_0 c_1 c_2 c_3 c_4 c_5 w   R) :
    KW Tryz.prog 266 64 (kv_KV_run.RV R) ([(0, [])].map (toItem (Tryz.f266.body.getD .skip))) [(0, .pointer k), (1, .agg #[.int .i64 c_0, .int .i64 c_1, .int .i64 c_2, .string c_3, .string c_4, .string c_5])] w := by
  exact block_spec Tryz.func266 Tryz.mixed stops_nil (Eq.mp (kv_KV_run.B0_eq k c_0 c_1 c_2 c_3 c_4 c_5 w   R ) h)
theorem kv_KV_run.sound (k : Option Addr) (c_0 c_1 c_2 : Int) (c_3 c_4 c_5 : ByteArray) (w : World) (R : Int → ByteArray → World → Prop) (h : kv_KV_run.B0 k c_0 c_1 c_2 c_3 c_4 c_5 w R) : kv_KV_run.Call k c_0 c_1 c_2 c_3 c_4 c_5 w R := by
  have hc := calls_of_block (args := #[.pointer k, .agg #[.int .i64 c_0, .int .i64 c_1, .int .i64 c_2, .string c_3, .string c_4, .string c_5]]) Tryz.func266 (body := (Tryz.f266.body.getD .skip)) (by kernel_rfl) (by kernel_rfl) (args_slot _) (kv_KV_run.B0_sound k c_0 c_1 c_2 c_3 c_4 c_5 w h)
  exact hc.mono fun e w' he => by
    obtain ⟨v, rfl, hv⟩ := he
    exact kv_KV_run.RV_elim hv
def elect_Elect_peer.B0 (e : Option Addr) (p : Int) (w : World)   (R : Bool → World → Prop) : Prop :=
  Bm (decide (p ≥ (0 : Int))) (
    Bm (decide (p < (3 : Int))) (
      Pn e fun a =>
      LdI .i64 a w fun x16 =>
      R (p != x16) w) (
      R false w)) (
    R false w)
theorem elect_Elect_peer.B0_eq (e : Option Addr) (p : Int) (w : World)   (R : Bool → World → Prop)  :
    (
  Bm (decide (p ≥ (0 : Int))) (
    Bm (decide (p < (3 : Int))) (
      Pn e fun a =>
      LdI .i64 a w fun x16 =>
      R (p != x16) w) (
      R false w)) (
    R false w)) = kstep Tryz.prog 19 Tryz.f267.results.toList (Tryz.f267.body.getD .skip) (elect_Elect_peer.RV R) (kvc Tryz.prog 19 Tryz.f267.results.toList (Tryz.f267.body.getD .skip) (elect_Elect_peer.RV R) [] 2000) [(0, [])] [(0, .pointer e), (1, .int .i64 p)] w := by kernel_rfl
theorem elect_Elect_peer.B0_sound {R : Bool → World → Prop}  (e : Option Addr) (p : Int) (w : World) (h : elect_Elect_peer.B0 e p w   R) :
    KW Tryz.prog 267 19 (elect_Elect_peer.RV R) ([(0, [])].map (toItem (Tryz.f267.body.getD .skip))) [(0, .pointer e), (1, .int .i64 p)] w := by
  exact block_spec Tryz.func267 Tryz.mixed stops_nil (Eq.mp (elect_Elect_peer.B0_eq e p w   R ) h)
theorem elect_Elect_peer.sound (e : Option Addr) (p : Int) (w : World) (R : Bool → World → Prop) (h : elect_Elect_peer.B0 e p w R) : elect_Elect_peer.Call e p w R := by
  have hc := calls_of_block (args := #[.pointer e, .int .i64 p]) Tryz.func267 (body := (Tryz.f267.body.getD .skip)) (by kernel_rfl) (by kernel_rfl) (args_slot _) (elect_Elect_peer.B0_sound e p w h)
  exact hc.mono fun e w' he => by
    obtain ⟨v, rfl, hv⟩ := he
    exact elect_Elect_peer.RV_elim hv
def elect_count.L1b (n w0 : Int) (w : World)  (N1 : Int → Int → World → Prop) (R : Int → World → Prop) : Prop :=
  Bm (decide (w0 > (0 : Int))) (
    0 ≤ (1 : Int) ∧
    N1 (IntKind.i64.wrap (n + (IntKind.i64.wrap (BitVec.ofInt IntKind.i64.bits w0 &&& BitVec.ofInt IntKind.i64.bits (1 : Int)).toNat))) (w0.fdiv (2 ^ (min (1 : Int).toNat IntKind.i64.bits))) w) (
    R n w)
theorem elect_count.L1b_eq (n w0 : Int) (w : World)  (N1 : Int → Int → World → Prop) (R : Int → World → Prop)  :
    (
  Bm (decide (w0 > (0 : Int))) (
    0 ≤ (1 : Int) ∧
    N1 (IntKind.i64.wrap (n + (IntKind.i64.wrap (BitVec.ofInt IntKind.i64.bits w0 &&& BitVec.ofInt IntKind.i64.bits (1 : Int)).toNat))) (w0.fdiv (2 ^ (min (1 : Int).toNat IntKind.i64.bits))) w) (
    R n w)) = kstep Tryz.prog 15 Tryz.f268.results.toList (Tryz.f268.body.getD .skip) (elect_count.RV R) (kvc Tryz.prog 15 Tryz.f268.results.toList (Tryz.f268.body.getD .skip) (elect_count.RV R) [([(0, [1, 1, 0, 1, 0, 0]), (2, [1, 1, 0, 1, 0, 0]), (1, [0]), (0, [1, 1, 1])], fun σ w => dI .i64 (slotOf σ 3) fun n_ => dI .i64 (slotOf σ 4) fun w0_ => N1 n_ w0_ w)] 2000) [(0, [1, 1, 0, 1, 0, 0]), (2, [1, 1, 0, 1, 0, 0]), (1, [0]), (0, [1, 1, 1])] [(3, .int .i64 n), (4, .int .i64 w0)] w := by kernel_rfl
theorem elect_count.L1b_sound {R : Int → World → Prop} {N1 : Int → Int → World → Prop} (hN1 : ∀ n w0 w, N1 n w0 w → KW Tryz.prog 268 15 (elect_count.RV R) ([(0, [1, 1, 0, 1, 0, 0]), (2, [1, 1, 0, 1, 0, 0]), (1, [0]), (0, [1, 1, 1])].map (toItem (Tryz.f268.body.getD .skip))) [(3, .int .i64 n), (4, .int .i64 w0)] w) (n w0 : Int) (w : World) (h : elect_count.L1b n w0 w  N1 R) :
    KW Tryz.prog 268 15 (elect_count.RV R) ([(0, [1, 1, 0, 1, 0, 0]), (2, [1, 1, 0, 1, 0, 0]), (1, [0]), (0, [1, 1, 1])].map (toItem (Tryz.f268.body.getD .skip))) [(3, .int .i64 n), (4, .int .i64 w0)] w := by
  exact block_spec Tryz.func268 Tryz.mixed (stops_cons (fun σ w h => by
      obtain ⟨n_, e0, h⟩ := dI_elim h
      obtain ⟨w0_, e1, h⟩ := dI_elim h
      exact (hN1 n_ w0_ w h).weaken (Sub.cons (Sub.cons (Sub.nil _) e1) e0)) stops_nil) (Eq.mp (elect_count.L1b_eq n w0 w  N1 R ) h)
def elect_count.L1 (n w0 : Int) (w : World)  (R : Int → World → Prop) : Prop :=
  ∃ (I : Nat → Int → Int → World → Prop) (m : Nat), I m n w0 w ∧ ∀ m n w0 w, I m n w0 w → elect_count.L1b n w0 w  (fun n' w0' w' => ∃ m', m' < m ∧ I m' n' w0' w') R
theorem elect_count.L1_sound {R : Int → World → Prop}  (n w0 : Int) (w : World) (h : elect_count.L1 n w0 w  R) :
    KW Tryz.prog 268 15 (elect_count.RV R) ([(0, [1, 1, 0, 1, 0, 0]), (2, [1, 1, 0, 1, 0, 0]), (1, [0]), (0, [1, 1, 1])].map (toItem (Tryz.f268.body.getD .skip))) [(3, .int .i64 n), (4, .int .i64 w0)] w := by
  obtain ⟨I, m, hBase, hr⟩ := h
  refine KW.loop (fun m σ w => ∃ (n w0 : Int), σ = [(3, .int .i64 n), (4, .int .i64 w0)] ∧ I m n w0 w) ?_ m _ w ⟨n, w0, rfl, hBase⟩
  rintro m ih σ w ⟨n, w0, rfl, hI⟩
  exact elect_count.L1b_sound  (N1 := fun n' w0' w' => ∃ m', m' < m ∧ I m' n' w0' w') (fun n' w0' w' hx => by obtain ⟨m', hlt, hI'⟩ := hx; exact ih m' hlt _ w' ⟨n', w0', rfl, hI'⟩) n w0 w (hr m n w0 w hI)
def elect_count.B0 (mask : Int) (w : World)   (R : Int → World → Prop) : Prop :=
  elect_count.L1 (0 : Int) mask w  R
theorem elect_count.B0_eq (mask : Int) (w : World)   (R : Int → World → Prop) (sL1 : Int → Int → World → Prop) :
    (
  sL1 (0 : Int) mask w) = kstep Tryz.prog 15 Tryz.f268.results.toList (Tryz.f268.body.getD .skip) (elect_count.RV R) (kvc Tryz.prog 15 Tryz.f268.results.toList (Tryz.f268.body.getD .skip) (elect_count.RV R) [([(0, [1, 1, 0, 1, 0, 0]), (2, [1, 1, 0, 1, 0, 0]), (1, [0]), (0, [1, 1, 1])], fun σ w => dI .i64 (slotOf σ 3) fun n_ => dI .i64 (slotOf σ 4) fun w0_ => sL1 n_ w0_ w)] 2000) [(0, [])] [(0, .int .i64 mask)] w := by kernel_rfl
theorem elect_count.B0_sound {R : Int → World → Prop}  (mask : Int) (w : World) (h : elect_count.B0 mask w   R) :
    KW Tryz.prog 268 15 (elect_count.RV R) ([(0, [])].map (toItem (Tryz.f268.body.getD .skip))) [(0, .int .i64 mask)] w := by
  exact block_spec Tryz.func268 Tryz.mixed (stops_cons (fun σ w h => by
      obtain ⟨n_, e0, h⟩ := dI_elim h
      obtain ⟨w0_, e1, h⟩ := dI_elim h
      exact (elect_count.L1_sound  n_ w0_ w h).weaken (Sub.cons (Sub.cons (Sub.nil _) e1) e0)) stops_nil) (Eq.mp (elect_count.B0_eq mask w   R (fun n_ w0_ w => elect_count.L1 n_ w0_ w  R)) h)
theorem elect_count.sound (mask : Int) (w : World) (R : Int → World → Prop) (h : elect_count.B0 mask w R) : elect_count.Call mask w R := by
  have hc := calls_of_block (args := #[.int .i64 mask]) Tryz.func268 (body := (Tryz.f268.body.getD .skip)) (by kernel_rfl) (by kernel_rfl) (args_slot _) (elect_count.B0_sound mask w h)
  exact hc.mono fun e w' he => by
    obtain ⟨v, rfl, hv⟩ := he
    exact elect_count.RV_elim hv
end Go.Proofs.Qxb6500430aGreat
