import Derived.Test.Qxb6500430aGreatProg
import Derived.Test.Qxb6500430aGreatVcC
open Go.Vc
namespace Go.Proofs.Qxb6500430aGreat
theorem Tryz.mixed : Tryz.prog.follows .mixedOrders = true := by kernel_rfl
abbrev T_int64 : TypeId := 2
abbrev T_int : TypeId := 3
abbrev T_bool : TypeId := 4
abbrev T_uint8 : TypeId := 5
abbrev T_string : TypeId := 9
abbrev T_uintptr : TypeId := 12
abbrev T_int32 : TypeId := 21
abbrev T_nodelaw_Below : TypeId := 30
abbrev T_api_Errno : TypeId := 38
abbrev T_api_Did : TypeId := 42
abbrev T_api_Op : TypeId := 47
abbrev T_kv_cell : TypeId := 66
abbrev T_kv_table : TypeId := 69
abbrev T_kv_session : TypeId := 71
abbrev T_kv_KV : TypeId := 74
abbrev T_nodem_Node : TypeId := 83
abbrev T_api_Cmd : TypeId := 87
abbrev T_api_Out : TypeId := 91
abbrev T_api_Ans : TypeId := 93
abbrev T_api_Reply : TypeId := 95
abbrev T_api_Msg : TypeId := 101
abbrev T_api_SyncView : TypeId := 108
abbrev T_node_enc : TypeId := 112
abbrev T_node_Node : TypeId := 115
abbrev T_diskm_Disk : TypeId := 120
abbrev T_kvm_KV : TypeId := 137
abbrev T_syncm_Sync : TypeId := 139
abbrev T_api_Entry : TypeId := 155
abbrev T_api_NodeView : TypeId := 165
abbrev T_diskm_half : TypeId := 171
abbrev T_sync_Sync : TypeId := 174
abbrev T_store_meta : TypeId := 180
abbrev T_store_head : TypeId := 182
abbrev T_api_Rec : TypeId := 185
abbrev T_store_Store : TypeId := 188
abbrev T_rlog_Log : TypeId := 197
abbrev T_elect_Elect : TypeId := 202
abbrev T_rlogm_state : TypeId := 208
abbrev T_rlogm_Log : TypeId := 211
abbrev T_electm_Elect : TypeId := 214
abbrev T_uint : TypeId := 219
abbrev T_node_dec : TypeId := 222
abbrev T_kv_reader : TypeId := 241
abbrev T_uint64 : TypeId := 256
abbrev T_uint32 : TypeId := 289
/-- e2e/nodelaw.Refines -/
def nodelaw_Refines.Call (script_b : Option Addr) (script_l script_c : Nat) (w : World) (R : Bool → World → Prop) : Prop :=
  Calls Tryz.prog 3 #[.slice script_b script_l script_c] w fun e w' => ∃ r, e = .returned (.bool r) ∧ R r w'
theorem nodelaw_Refines.Call.mono {script_b script_l script_c} {w : World} {R R' : Bool → World → Prop} (h : nodelaw_Refines.Call script_b script_l script_c w R) (hr : ∀ r w', R r w' → R' r w') : nodelaw_Refines.Call script_b script_l script_c w R' :=
  Calls.mono h fun e w' he => by
    obtain ⟨r, h1, h2⟩ := he
    exact ⟨r, h1, hr r w' h2⟩
def nodelaw_Refines.RV (R : Bool → World → Prop) (v : Value) (w : World) : Prop := match v with
  | .bool r => R r w
  | _ => False
theorem nodelaw_Refines.RV_elim {R : Bool → World → Prop} {v : Value} {w : World} (h : nodelaw_Refines.RV R v w) : ∃ r, Ending.returned v = .returned (.bool r) ∧ R r w := by
  unfold nodelaw_Refines.RV at h
  split at h
  · exact ⟨_, rfl, h⟩
  · exact h.elim
/-- e2e/nodelaw.RefinesSteady -/
def nodelaw_RefinesSteady.Call (script_b : Option Addr) (script_l script_c : Nat) (w : World) (R : Bool → World → Prop) : Prop :=
  Calls Tryz.prog 4 #[.slice script_b script_l script_c] w fun e w' => ∃ r, e = .returned (.bool r) ∧ R r w'
theorem nodelaw_RefinesSteady.Call.mono {script_b script_l script_c} {w : World} {R R' : Bool → World → Prop} (h : nodelaw_RefinesSteady.Call script_b script_l script_c w R) (hr : ∀ r w', R r w' → R' r w') : nodelaw_RefinesSteady.Call script_b script_l script_c w R' :=
  Calls.mono h fun e w' he => by
    obtain ⟨r, h1, h2⟩ := he
    exact ⟨r, h1, hr r w' h2⟩
def nodelaw_RefinesSteady.RV (R : Bool → World → Prop) (v : Value) (w : World) : Prop := match v with
  | .bool r => R r w
  | _ => False
theorem nodelaw_RefinesSteady.RV_elim {R : Bool → World → Prop} {v : Value} {w : World} (h : nodelaw_RefinesSteady.RV R v w) : ∃ r, Ending.returned v = .returned (.bool r) ∧ R r w := by
  unfold nodelaw_RefinesSteady.RV at h
  split at h
  · exact ⟨_, rfl, h⟩
  · exact h.elim
/-- e2e/nodelaw.RefinesQuiet -/
def nodelaw_RefinesQuiet.Call (script_b : Option Addr) (script_l script_c : Nat) (w : World) (R : Bool → World → Prop) : Prop :=
  Calls Tryz.prog 5 #[.slice script_b script_l script_c] w fun e w' => ∃ r, e = .returned (.bool r) ∧ R r w'
theorem nodelaw_RefinesQuiet.Call.mono {script_b script_l script_c} {w : World} {R R' : Bool → World → Prop} (h : nodelaw_RefinesQuiet.Call script_b script_l script_c w R) (hr : ∀ r w', R r w' → R' r w') : nodelaw_RefinesQuiet.Call script_b script_l script_c w R' :=
  Calls.mono h fun e w' he => by
    obtain ⟨r, h1, h2⟩ := he
    exact ⟨r, h1, hr r w' h2⟩
def nodelaw_RefinesQuiet.RV (R : Bool → World → Prop) (v : Value) (w : World) : Prop := match v with
  | .bool r => R r w
  | _ => False
theorem nodelaw_RefinesQuiet.RV_elim {R : Bool → World → Prop} {v : Value} {w : World} (h : nodelaw_RefinesQuiet.RV R v w) : ∃ r, Ending.returned v = .returned (.bool r) ∧ R r w := by
  unfold nodelaw_RefinesQuiet.RV at h
  split at h
  · exact ⟨_, rfl, h⟩
  · exact h.elim
/-- e2e/nodelaw.RefinesUpTo -/
def nodelaw_RefinesUpTo.Call (script_b : Option Addr) (script_l script_c : Nat) (w : World) (R : Int → World → Prop) : Prop :=
  Calls Tryz.prog 6 #[.slice script_b script_l script_c] w fun e w' => ∃ r, e = .returned (.int .i64 r) ∧ R r w'
theorem nodelaw_RefinesUpTo.Call.mono {script_b script_l script_c} {w : World} {R R' : Int → World → Prop} (h : nodelaw_RefinesUpTo.Call script_b script_l script_c w R) (hr : ∀ r w', R r w' → R' r w') : nodelaw_RefinesUpTo.Call script_b script_l script_c w R' :=
  Calls.mono h fun e w' he => by
    obtain ⟨r, h1, h2⟩ := he
    exact ⟨r, h1, hr r w' h2⟩
def nodelaw_RefinesUpTo.RV (R : Int → World → Prop) (v : Value) (w : World) : Prop := match v with
  | .int .i64 r => R r w
  | _ => False
theorem nodelaw_RefinesUpTo.RV_elim {R : Int → World → Prop} {v : Value} {w : World} (h : nodelaw_RefinesUpTo.RV R v w) : ∃ r, Ending.returned v = .returned (.int .i64 r) ∧ R r w := by
  unfold nodelaw_RefinesUpTo.RV at h
  split at h
  · exact ⟨_, rfl, h⟩
  · exact h.elim
/-- e2e/nodelaw.walk -/
def nodelaw_walk.Call (script_b : Option Addr) (script_l script_c : Nat) (steady quiet : Bool) (w : World) (R : Int → Int → World → Prop) : Prop :=
  Calls Tryz.prog 7 #[.slice script_b script_l script_c, .bool steady, .bool quiet] w fun e w' => ∃ r0 r1, e = .returned (.tuple #[.int .i64 r0, .int .i64 r1]) ∧ R r0 r1 w'
theorem nodelaw_walk.Call.mono {script_b script_l script_c steady quiet} {w : World} {R R' : Int → Int → World → Prop} (h : nodelaw_walk.Call script_b script_l script_c steady quiet w R) (hr : ∀ r0 r1 w', R r0 r1 w' → R' r0 r1 w') : nodelaw_walk.Call script_b script_l script_c steady quiet w R' :=
  Calls.mono h fun e w' he => by
    obtain ⟨r0, r1, h1, h2⟩ := he
    exact ⟨r0, r1, h1, hr r0 r1 w' h2⟩
def nodelaw_walk.RV (R : Int → Int → World → Prop) (v : Value) (w : World) : Prop := match v with
  | .tuple ⟨[.int .i64 r0, .int .i64 r1]⟩ => R r0 r1 w
  | _ => False
theorem nodelaw_walk.RV_elim {R : Int → Int → World → Prop} {v : Value} {w : World} (h : nodelaw_walk.RV R v w) : ∃ r0 r1, Ending.returned v = .returned (.tuple #[.int .i64 r0, .int .i64 r1]) ∧ R r0 r1 w := by
  unfold nodelaw_walk.RV at h
  split at h
  · exact ⟨_, _, rfl, h⟩
  · exact h.elim
/-- e2e/nodelaw.RefinesQuietUpTo -/
def nodelaw_RefinesQuietUpTo.Call (script_b : Option Addr) (script_l script_c : Nat) (w : World) (R : Int → World → Prop) : Prop :=
  Calls Tryz.prog 8 #[.slice script_b script_l script_c] w fun e w' => ∃ r, e = .returned (.int .i64 r) ∧ R r w'
theorem nodelaw_RefinesQuietUpTo.Call.mono {script_b script_l script_c} {w : World} {R R' : Int → World → Prop} (h : nodelaw_RefinesQuietUpTo.Call script_b script_l script_c w R) (hr : ∀ r w', R r w' → R' r w') : nodelaw_RefinesQuietUpTo.Call script_b script_l script_c w R' :=
  Calls.mono h fun e w' he => by
    obtain ⟨r, h1, h2⟩ := he
    exact ⟨r, h1, hr r w' h2⟩
def nodelaw_RefinesQuietUpTo.RV (R : Int → World → Prop) (v : Value) (w : World) : Prop := match v with
  | .int .i64 r => R r w
  | _ => False
theorem nodelaw_RefinesQuietUpTo.RV_elim {R : Int → World → Prop} {v : Value} {w : World} (h : nodelaw_RefinesQuietUpTo.RV R v w) : ∃ r, Ending.returned v = .returned (.int .i64 r) ∧ R r w := by
  unfold nodelaw_RefinesQuietUpTo.RV at h
  split at h
  · exact ⟨_, rfl, h⟩
  · exact h.elim
/-- e2e/nodelaw.Ground -/
def nodelaw_Ground.Call (id0 : Int) (w : World) (R : Option Addr → Option Addr → Int → World → Prop) : Prop :=
  Calls Tryz.prog 9 #[.int .i64 id0] w fun e w' => ∃ r_0 r_1 r_2, e = .returned (.agg #[.pointer r_0, .pointer r_1, .int .i64 r_2]) ∧ R r_0 r_1 r_2 w'
theorem nodelaw_Ground.Call.mono {id0} {w : World} {R R' : Option Addr → Option Addr → Int → World → Prop} (h : nodelaw_Ground.Call id0 w R) (hr : ∀ r_0 r_1 r_2 w', R r_0 r_1 r_2 w' → R' r_0 r_1 r_2 w') : nodelaw_Ground.Call id0 w R' :=
  Calls.mono h fun e w' he => by
    obtain ⟨r_0, r_1, r_2, h1, h2⟩ := he
    exact ⟨r_0, r_1, r_2, h1, hr r_0 r_1 r_2 w' h2⟩
def nodelaw_Ground.RV (R : Option Addr → Option Addr → Int → World → Prop) (v : Value) (w : World) : Prop := match v with
  | .agg ⟨[.pointer r_0, .pointer r_1, .int .i64 r_2]⟩ => R r_0 r_1 r_2 w
  | _ => False
theorem nodelaw_Ground.RV_elim {R : Option Addr → Option Addr → Int → World → Prop} {v : Value} {w : World} (h : nodelaw_Ground.RV R v w) : ∃ r_0 r_1 r_2, Ending.returned v = .returned (.agg #[.pointer r_0, .pointer r_1, .int .i64 r_2]) ∧ R r_0 r_1 r_2 w := by
  unfold nodelaw_Ground.RV at h
  split at h
  · exact ⟨_, _, _, rfl, h⟩
  · exact h.elim
/-- e2e/kv.New -/
def kv_New.Call  (w : World) (R : Option Addr → World → Prop) : Prop :=
  Calls Tryz.prog 10 #[] w fun e w' => ∃ r, e = .returned (.pointer r) ∧ R r w'
theorem kv_New.Call.mono {w : World} {R R' : Option Addr → World → Prop} (h : kv_New.Call w R) (hr : ∀ r w', R r w' → R' r w') : kv_New.Call w R' :=
  Calls.mono h fun e w' he => by
    obtain ⟨r, h1, h2⟩ := he
    exact ⟨r, h1, hr r w' h2⟩
def kv_New.RV (R : Option Addr → World → Prop) (v : Value) (w : World) : Prop := match v with
  | .pointer r => R r w
  | _ => False
theorem kv_New.RV_elim {R : Option Addr → World → Prop} {v : Value} {w : World} (h : kv_New.RV R v w) : ∃ r, Ending.returned v = .returned (.pointer r) ∧ R r w := by
  unfold kv_New.RV at h
  split at h
  · exact ⟨_, rfl, h⟩
  · exact h.elim
/-- e2e/node.New -/
def node_New.Call (sy ks : Option Addr) (w : World) (R : Option Addr → World → Prop) : Prop :=
  Calls Tryz.prog 11 #[.pointer sy, .pointer ks] w fun e w' => ∃ r, e = .returned (.pointer r) ∧ R r w'
theorem node_New.Call.mono {sy ks} {w : World} {R R' : Option Addr → World → Prop} (h : node_New.Call sy ks w R) (hr : ∀ r w', R r w' → R' r w') : node_New.Call sy ks w R' :=
  Calls.mono h fun e w' he => by
    obtain ⟨r, h1, h2⟩ := he
    exact ⟨r, h1, hr r w' h2⟩
def node_New.RV (R : Option Addr → World → Prop) (v : Value) (w : World) : Prop := match v with
  | .pointer r => R r w
  | _ => False
theorem node_New.RV_elim {R : Option Addr → World → Prop} {v : Value} {w : World} (h : node_New.RV R v w) : ∃ r, Ending.returned v = .returned (.pointer r) ∧ R r w := by
  unfold node_New.RV at h
  split at h
  · exact ⟨_, rfl, h⟩
  · exact h.elim
/-- e2e/nodem.New -/
def nodem_New.Call (id0 : Int) (w : World) (R : Option Addr → World → Prop) : Prop :=
  Calls Tryz.prog 12 #[.int .i64 id0] w fun e w' => ∃ r, e = .returned (.pointer r) ∧ R r w'
theorem nodem_New.Call.mono {id0} {w : World} {R R' : Option Addr → World → Prop} (h : nodem_New.Call id0 w R) (hr : ∀ r w', R r w' → R' r w') : nodem_New.Call id0 w R' :=
  Calls.mono h fun e w' he => by
    obtain ⟨r, h1, h2⟩ := he
    exact ⟨r, h1, hr r w' h2⟩
def nodem_New.RV (R : Option Addr → World → Prop) (v : Value) (w : World) : Prop := match v with
  | .pointer r => R r w
  | _ => False
theorem nodem_New.RV_elim {R : Option Addr → World → Prop} {v : Value} {w : World} (h : nodem_New.RV R v w) : ∃ r, Ending.returned v = .returned (.pointer r) ∧ R r w := by
  unfold nodem_New.RV at h
  split at h
  · exact ⟨_, rfl, h⟩
  · exact h.elim
/-- e2e/nodelaw.Steps -/
def nodelaw_Steps.Call (b_0 b_1 : Option Addr) (b_2 : Int) (w : World) (R : Int → World → Prop) : Prop :=
  Calls Tryz.prog 13 #[.agg #[.pointer b_0, .pointer b_1, .int .i64 b_2]] w fun e w' => ∃ r, e = .returned (.int .i64 r) ∧ R r w'
theorem nodelaw_Steps.Call.mono {b_0 b_1 b_2} {w : World} {R R' : Int → World → Prop} (h : nodelaw_Steps.Call b_0 b_1 b_2 w R) (hr : ∀ r w', R r w' → R' r w') : nodelaw_Steps.Call b_0 b_1 b_2 w R' :=
  Calls.mono h fun e w' he => by
    obtain ⟨r, h1, h2⟩ := he
    exact ⟨r, h1, hr r w' h2⟩
def nodelaw_Steps.RV (R : Int → World → Prop) (v : Value) (w : World) : Prop := match v with
  | .int .i64 r => R r w
  | _ => False
theorem nodelaw_Steps.RV_elim {R : Int → World → Prop} {v : Value} {w : World} (h : nodelaw_Steps.RV R v w) : ∃ r, Ending.returned v = .returned (.int .i64 r) ∧ R r w := by
  unfold nodelaw_Steps.RV at h
  split at h
  · exact ⟨_, rfl, h⟩
  · exact h.elim
/-- e2e/nodelaw.Seen -/
def nodelaw_Seen.Call (x m0 b_0 b_1 : Option Addr) (b_2 n : Int) (key : ByteArray) (w : World) (R : Bool → World → Prop) : Prop :=
  Calls Tryz.prog 14 #[.pointer x, .pointer m0, .agg #[.pointer b_0, .pointer b_1, .int .i64 b_2], .int .i64 n, .string key] w fun e w' => ∃ r, e = .returned (.bool r) ∧ R r w'
theorem nodelaw_Seen.Call.mono {x m0 b_0 b_1 b_2 n key} {w : World} {R R' : Bool → World → Prop} (h : nodelaw_Seen.Call x m0 b_0 b_1 b_2 n key w R) (hr : ∀ r w', R r w' → R' r w') : nodelaw_Seen.Call x m0 b_0 b_1 b_2 n key w R' :=
  Calls.mono h fun e w' he => by
    obtain ⟨r, h1, h2⟩ := he
    exact ⟨r, h1, hr r w' h2⟩
def nodelaw_Seen.RV (R : Bool → World → Prop) (v : Value) (w : World) : Prop := match v with
  | .bool r => R r w
  | _ => False
theorem nodelaw_Seen.RV_elim {R : Bool → World → Prop} {v : Value} {w : World} (h : nodelaw_Seen.RV R v w) : ∃ r, Ending.returned v = .returned (.bool r) ∧ R r w := by
  unfold nodelaw_Seen.RV at h
  split at h
  · exact ⟨_, rfl, h⟩
  · exact h.elim
/-- e2e/nodelaw.Mark -/
def nodelaw_Mark.Call (b_0 b_1 : Option Addr) (b_2 : Int) (w : World) (R : World → Prop) : Prop :=
  Calls Tryz.prog 15 #[.agg #[.pointer b_0, .pointer b_1, .int .i64 b_2]] w fun e w' => e = .returned (.tuple #[]) ∧ R w'
theorem nodelaw_Mark.Call.mono {b_0 b_1 b_2} {w : World} {R R' : World → Prop} (h : nodelaw_Mark.Call b_0 b_1 b_2 w R) (hr : ∀ w', R w' → R'  w') : nodelaw_Mark.Call b_0 b_1 b_2 w R' :=
  Calls.mono h fun e w' he => by
    obtain ⟨h1, h2⟩ := he
    exact ⟨h1, hr  w' h2⟩
def nodelaw_Mark.RV (R : World → Prop) (v : Value) (w : World) : Prop := match v with
  | .tuple ⟨[]⟩ => R w
  | _ => False
theorem nodelaw_Mark.RV_elim {R : World → Prop} {v : Value} {w : World} (h : nodelaw_Mark.RV R v w) : Ending.returned v = .returned (.tuple #[]) ∧ R w := by
  unfold nodelaw_Mark.RV at h
  split at h
  · exact ⟨rfl, h⟩
  · exact h.elim
/-- (*e2e/nodem.Node).Mark -/
def nodem_Node_Mark.Call (n : Option Addr) (w : World) (R : World → Prop) : Prop :=
  Calls Tryz.prog 16 #[.pointer n] w fun e w' => e = .returned (.tuple #[]) ∧ R w'
theorem nodem_Node_Mark.Call.mono {n} {w : World} {R R' : World → Prop} (h : nodem_Node_Mark.Call n w R) (hr : ∀ w', R w' → R'  w') : nodem_Node_Mark.Call n w R' :=
  Calls.mono h fun e w' he => by
    obtain ⟨h1, h2⟩ := he
    exact ⟨h1, hr  w' h2⟩
def nodem_Node_Mark.RV (R : World → Prop) (v : Value) (w : World) : Prop := match v with
  | .tuple ⟨[]⟩ => R w
  | _ => False
theorem nodem_Node_Mark.RV_elim {R : World → Prop} {v : Value} {w : World} (h : nodem_Node_Mark.RV R v w) : Ending.returned v = .returned (.tuple #[]) ∧ R w := by
  unfold nodem_Node_Mark.RV at h
  split at h
  · exact ⟨rfl, h⟩
  · exact h.elim
/-- e2e/nodelaw.EventReal -/
def nodelaw_EventReal.Call (x : Option Addr) (o_0 o_1 o_2 o_3 : Int) (o_4 o_5 : ByteArray) (w : World) (R : Int → Option Addr → Nat → Nat → Option Addr → Nat → Nat → World → Prop) : Prop :=
  Calls Tryz.prog 17 #[.pointer x, .agg #[.int .i64 o_0, .int .i64 o_1, .int .i64 o_2, .int .i64 o_3, .string o_4, .string o_5]] w fun e w' => ∃ r_0 r_1_b r_1_l r_1_c r_2_b r_2_l r_2_c, e = .returned (.agg #[.int .i64 r_0, .slice r_1_b r_1_l r_1_c, .slice r_2_b r_2_l r_2_c]) ∧ R r_0 r_1_b r_1_l r_1_c r_2_b r_2_l r_2_c w'
theorem nodelaw_EventReal.Call.mono {x o_0 o_1 o_2 o_3 o_4 o_5} {w : World} {R R' : Int → Option Addr → Nat → Nat → Option Addr → Nat → Nat → World → Prop} (h : nodelaw_EventReal.Call x o_0 o_1 o_2 o_3 o_4 o_5 w R) (hr : ∀ r_0 r_1_b r_1_l r_1_c r_2_b r_2_l r_2_c w', R r_0 r_1_b r_1_l r_1_c r_2_b r_2_l r_2_c w' → R' r_0 r_1_b r_1_l r_1_c r_2_b r_2_l r_2_c w') : nodelaw_EventReal.Call x o_0 o_1 o_2 o_3 o_4 o_5 w R' :=
  Calls.mono h fun e w' he => by
    obtain ⟨r_0, r_1_b, r_1_l, r_1_c, r_2_b, r_2_l, r_2_c, h1, h2⟩ := he
    exact ⟨r_0, r_1_b, r_1_l, r_1_c, r_2_b, r_2_l, r_2_c, h1, hr r_0 r_1_b r_1_l r_1_c r_2_b r_2_l r_2_c w' h2⟩
def nodelaw_EventReal.RV (R : Int → Option Addr → Nat → Nat → Option Addr → Nat → Nat → World → Prop) (v : Value) (w : World) : Prop := match v with
  | .agg ⟨[.int .i64 r_0, .slice r_1_b r_1_l r_1_c, .slice r_2_b r_2_l r_2_c]⟩ => R r_0 r_1_b r_1_l r_1_c r_2_b r_2_l r_2_c w
  | _ => False
theorem nodelaw_EventReal.RV_elim {R : Int → Option Addr → Nat → Nat → Option Addr → Nat → Nat → World → Prop} {v : Value} {w : World} (h : nodelaw_EventReal.RV R v w) : ∃ r_0 r_1_b r_1_l r_1_c r_2_b r_2_l r_2_c, Ending.returned v = .returned (.agg #[.int .i64 r_0, .slice r_1_b r_1_l r_1_c, .slice r_2_b r_2_l r_2_c]) ∧ R r_0 r_1_b r_1_l r_1_c r_2_b r_2_l r_2_c w := by
  unfold nodelaw_EventReal.RV at h
  split at h
  · exact ⟨_, _, _, _, _, _, _, rfl, h⟩
  · exact h.elim
/-- e2e/nodelaw.EventModel -/
def nodelaw_EventModel.Call (m0 : Option Addr) (o_0 o_1 o_2 o_3 : Int) (o_4 o_5 : ByteArray) (w : World) (R : Int → Option Addr → Nat → Nat → Option Addr → Nat → Nat → World → Prop) : Prop :=
  Calls Tryz.prog 18 #[.pointer m0, .agg #[.int .i64 o_0, .int .i64 o_1, .int .i64 o_2, .int .i64 o_3, .string o_4, .string o_5]] w fun e w' => ∃ r_0 r_1_b r_1_l r_1_c r_2_b r_2_l r_2_c, e = .returned (.agg #[.int .i64 r_0, .slice r_1_b r_1_l r_1_c, .slice r_2_b r_2_l r_2_c]) ∧ R r_0 r_1_b r_1_l r_1_c r_2_b r_2_l r_2_c w'
theorem nodelaw_EventModel.Call.mono {m0 o_0 o_1 o_2 o_3 o_4 o_5} {w : World} {R R' : Int → Option Addr → Nat → Nat → Option Addr → Nat → Nat → World → Prop} (h : nodelaw_EventModel.Call m0 o_0 o_1 o_2 o_3 o_4 o_5 w R) (hr : ∀ r_0 r_1_b r_1_l r_1_c r_2_b r_2_l r_2_c w', R r_0 r_1_b r_1_l r_1_c r_2_b r_2_l r_2_c w' → R' r_0 r_1_b r_1_l r_1_c r_2_b r_2_l r_2_c w') : nodelaw_EventModel.Call m0 o_0 o_1 o_2 o_3 o_4 o_5 w R' :=
  Calls.mono h fun e w' he => by
    obtain ⟨r_0, r_1_b, r_1_l, r_1_c, r_2_b, r_2_l, r_2_c, h1, h2⟩ := he
    exact ⟨r_0, r_1_b, r_1_l, r_1_c, r_2_b, r_2_l, r_2_c, h1, hr r_0 r_1_b r_1_l r_1_c r_2_b r_2_l r_2_c w' h2⟩
def nodelaw_EventModel.RV (R : Int → Option Addr → Nat → Nat → Option Addr → Nat → Nat → World → Prop) (v : Value) (w : World) : Prop := match v with
  | .agg ⟨[.int .i64 r_0, .slice r_1_b r_1_l r_1_c, .slice r_2_b r_2_l r_2_c]⟩ => R r_0 r_1_b r_1_l r_1_c r_2_b r_2_l r_2_c w
  | _ => False
theorem nodelaw_EventModel.RV_elim {R : Int → Option Addr → Nat → Nat → Option Addr → Nat → Nat → World → Prop} {v : Value} {w : World} (h : nodelaw_EventModel.RV R v w) : ∃ r_0 r_1_b r_1_l r_1_c r_2_b r_2_l r_2_c, Ending.returned v = .returned (.agg #[.int .i64 r_0, .slice r_1_b r_1_l r_1_c, .slice r_2_b r_2_l r_2_c]) ∧ R r_0 r_1_b r_1_l r_1_c r_2_b r_2_l r_2_c w := by
  unfold nodelaw_EventModel.RV at h
  split at h
  · exact ⟨_, _, _, _, _, _, _, rfl, h⟩
  · exact h.elim
/-- e2e/nodelaw.SameDid -/
def nodelaw_SameDid.Call (d_0 : Int) (d_1_b : Option Addr) (d_1_l d_1_c : Nat) (d_2_b : Option Addr) (d_2_l d_2_c : Nat) (e_0 : Int) (e_1_b : Option Addr) (e_1_l e_1_c : Nat) (e_2_b : Option Addr) (e_2_l e_2_c : Nat) (w : World) (R : Bool → World → Prop) : Prop :=
  Calls Tryz.prog 19 #[.agg #[.int .i64 d_0, .slice d_1_b d_1_l d_1_c, .slice d_2_b d_2_l d_2_c], .agg #[.int .i64 e_0, .slice e_1_b e_1_l e_1_c, .slice e_2_b e_2_l e_2_c]] w fun e w' => ∃ r, e = .returned (.bool r) ∧ R r w'
theorem nodelaw_SameDid.Call.mono {d_0 d_1_b d_1_l d_1_c d_2_b d_2_l d_2_c e_0 e_1_b e_1_l e_1_c e_2_b e_2_l e_2_c} {w : World} {R R' : Bool → World → Prop} (h : nodelaw_SameDid.Call d_0 d_1_b d_1_l d_1_c d_2_b d_2_l d_2_c e_0 e_1_b e_1_l e_1_c e_2_b e_2_l e_2_c w R) (hr : ∀ r w', R r w' → R' r w') : nodelaw_SameDid.Call d_0 d_1_b d_1_l d_1_c d_2_b d_2_l d_2_c e_0 e_1_b e_1_l e_1_c e_2_b e_2_l e_2_c w R' :=
  Calls.mono h fun e w' he => by
    obtain ⟨r, h1, h2⟩ := he
    exact ⟨r, h1, hr r w' h2⟩
def nodelaw_SameDid.RV (R : Bool → World → Prop) (v : Value) (w : World) : Prop := match v with
  | .bool r => R r w
  | _ => False
theorem nodelaw_SameDid.RV_elim {R : Bool → World → Prop} {v : Value} {w : World} (h : nodelaw_SameDid.RV R v w) : ∃ r, Ending.returned v = .returned (.bool r) ∧ R r w := by
  unfold nodelaw_SameDid.RV at h
  split at h
  · exact ⟨_, rfl, h⟩
  · exact h.elim
/-- e2e/nodelaw.Untouched -/
def nodelaw_Untouched.Call (mine_b : Option Addr) (mine_l mine_c : Nat) (w : World) (R : Bool → World → Prop) : Prop :=
  Calls Tryz.prog 20 #[.slice mine_b mine_l mine_c] w fun e w' => ∃ r, e = .returned (.bool r) ∧ R r w'
theorem nodelaw_Untouched.Call.mono {mine_b mine_l mine_c} {w : World} {R R' : Bool → World → Prop} (h : nodelaw_Untouched.Call mine_b mine_l mine_c w R) (hr : ∀ r w', R r w' → R' r w') : nodelaw_Untouched.Call mine_b mine_l mine_c w R' :=
  Calls.mono h fun e w' he => by
    obtain ⟨r, h1, h2⟩ := he
    exact ⟨r, h1, hr r w' h2⟩
def nodelaw_Untouched.RV (R : Bool → World → Prop) (v : Value) (w : World) : Prop := match v with
  | .bool r => R r w
  | _ => False
theorem nodelaw_Untouched.RV_elim {R : Bool → World → Prop} {v : Value} {w : World} (h : nodelaw_Untouched.RV R v w) : ∃ r, Ending.returned v = .returned (.bool r) ∧ R r w := by
  unfold nodelaw_Untouched.RV at h
  split at h
  · exact ⟨_, rfl, h⟩
  · exact h.elim
/-- e2e/nodelaw.Spoil -/
def nodelaw_Spoil.Call (d_0 : Int) (d_1_b : Option Addr) (d_1_l d_1_c : Nat) (d_2_b : Option Addr) (d_2_l d_2_c : Nat) (w : World) (R : World → Prop) : Prop :=
  Calls Tryz.prog 21 #[.agg #[.int .i64 d_0, .slice d_1_b d_1_l d_1_c, .slice d_2_b d_2_l d_2_c]] w fun e w' => e = .returned (.tuple #[]) ∧ R w'
theorem nodelaw_Spoil.Call.mono {d_0 d_1_b d_1_l d_1_c d_2_b d_2_l d_2_c} {w : World} {R R' : World → Prop} (h : nodelaw_Spoil.Call d_0 d_1_b d_1_l d_1_c d_2_b d_2_l d_2_c w R) (hr : ∀ w', R w' → R'  w') : nodelaw_Spoil.Call d_0 d_1_b d_1_l d_1_c d_2_b d_2_l d_2_c w R' :=
  Calls.mono h fun e w' he => by
    obtain ⟨h1, h2⟩ := he
    exact ⟨h1, hr  w' h2⟩
def nodelaw_Spoil.RV (R : World → Prop) (v : Value) (w : World) : Prop := match v with
  | .tuple ⟨[]⟩ => R w
  | _ => False
theorem nodelaw_Spoil.RV_elim {R : World → Prop} {v : Value} {w : World} (h : nodelaw_Spoil.RV R v w) : Ending.returned v = .returned (.tuple #[]) ∧ R w := by
  unfold nodelaw_Spoil.RV at h
  split at h
  · exact ⟨rfl, h⟩
  · exact h.elim
/-- e2e/nodelaw.Look -/
def nodelaw_Look.Call (x m0 : Option Addr) (o_0 o_1 o_2 o_3 : Int) (o_4 o_5 : ByteArray) (w : World) (R : Bool → World → Prop) : Prop :=
  Calls Tryz.prog 22 #[.pointer x, .pointer m0, .agg #[.int .i64 o_0, .int .i64 o_1, .int .i64 o_2, .int .i64 o_3, .string o_4, .string o_5]] w fun e w' => ∃ r, e = .returned (.bool r) ∧ R r w'
theorem nodelaw_Look.Call.mono {x m0 o_0 o_1 o_2 o_3 o_4 o_5} {w : World} {R R' : Bool → World → Prop} (h : nodelaw_Look.Call x m0 o_0 o_1 o_2 o_3 o_4 o_5 w R) (hr : ∀ r w', R r w' → R' r w') : nodelaw_Look.Call x m0 o_0 o_1 o_2 o_3 o_4 o_5 w R' :=
  Calls.mono h fun e w' he => by
    obtain ⟨r, h1, h2⟩ := he
    exact ⟨r, h1, hr r w' h2⟩
def nodelaw_Look.RV (R : Bool → World → Prop) (v : Value) (w : World) : Prop := match v with
  | .bool r => R r w
  | _ => False
theorem nodelaw_Look.RV_elim {R : Bool → World → Prop} {v : Value} {w : World} (h : nodelaw_Look.RV R v w) : ∃ r, Ending.returned v = .returned (.bool r) ∧ R r w := by
  unfold nodelaw_Look.RV at h
  split at h
  · exact ⟨_, rfl, h⟩
  · exact h.elim
/-- e2e/nodelaw.Idle -/
def nodelaw_Idle.Call (b_0 b_1 : Option Addr) (b_2 : Int) (m0 : Option Addr) (w : World) (R : Bool → World → Prop) : Prop :=
  Calls Tryz.prog 23 #[.agg #[.pointer b_0, .pointer b_1, .int .i64 b_2], .pointer m0] w fun e w' => ∃ r, e = .returned (.bool r) ∧ R r w'
theorem nodelaw_Idle.Call.mono {b_0 b_1 b_2 m0} {w : World} {R R' : Bool → World → Prop} (h : nodelaw_Idle.Call b_0 b_1 b_2 m0 w R) (hr : ∀ r w', R r w' → R' r w') : nodelaw_Idle.Call b_0 b_1 b_2 m0 w R' :=
  Calls.mono h fun e w' he => by
    obtain ⟨r, h1, h2⟩ := he
    exact ⟨r, h1, hr r w' h2⟩
def nodelaw_Idle.RV (R : Bool → World → Prop) (v : Value) (w : World) : Prop := match v with
  | .bool r => R r w
  | _ => False
theorem nodelaw_Idle.RV_elim {R : Bool → World → Prop} {v : Value} {w : World} (h : nodelaw_Idle.RV R v w) : ∃ r, Ending.returned v = .returned (.bool r) ∧ R r w := by
  unfold nodelaw_Idle.RV at h
  split at h
  · exact ⟨_, rfl, h⟩
  · exact h.elim
/-- e2e/nodelaw.After -/
def nodelaw_After.Call (b_0 b_1 : Option Addr) (b_2 k : Int) (w : World) (R : Option Addr → Option Addr → Int → World → Prop) : Prop :=
  Calls Tryz.prog 24 #[.agg #[.pointer b_0, .pointer b_1, .int .i64 b_2], .int .i64 k] w fun e w' => ∃ r_0 r_1 r_2, e = .returned (.agg #[.pointer r_0, .pointer r_1, .int .i64 r_2]) ∧ R r_0 r_1 r_2 w'
theorem nodelaw_After.Call.mono {b_0 b_1 b_2 k} {w : World} {R R' : Option Addr → Option Addr → Int → World → Prop} (h : nodelaw_After.Call b_0 b_1 b_2 k w R) (hr : ∀ r_0 r_1 r_2 w', R r_0 r_1 r_2 w' → R' r_0 r_1 r_2 w') : nodelaw_After.Call b_0 b_1 b_2 k w R' :=
  Calls.mono h fun e w' he => by
    obtain ⟨r_0, r_1, r_2, h1, h2⟩ := he
    exact ⟨r_0, r_1, r_2, h1, hr r_0 r_1 r_2 w' h2⟩
def nodelaw_After.RV (R : Option Addr → Option Addr → Int → World → Prop) (v : Value) (w : World) : Prop := match v with
  | .agg ⟨[.pointer r_0, .pointer r_1, .int .i64 r_2]⟩ => R r_0 r_1 r_2 w
  | _ => False
theorem nodelaw_After.RV_elim {R : Option Addr → Option Addr → Int → World → Prop} {v : Value} {w : World} (h : nodelaw_After.RV R v w) : ∃ r_0 r_1 r_2, Ending.returned v = .returned (.agg #[.pointer r_0, .pointer r_1, .int .i64 r_2]) ∧ R r_0 r_1 r_2 w := by
  unfold nodelaw_After.RV at h
  split at h
  · exact ⟨_, _, _, rfl, h⟩
  · exact h.elim
/-- e2e/node.Open -/
def node_Open.Call (sy ks : Option Addr) (w : World) (R : Option Addr → World → Prop) : Prop :=
  Calls Tryz.prog 25 #[.pointer sy, .pointer ks] w fun e w' => ∃ r, e = .returned (.pointer r) ∧ R r w'
theorem node_Open.Call.mono {sy ks} {w : World} {R R' : Option Addr → World → Prop} (h : node_Open.Call sy ks w R) (hr : ∀ r w', R r w' → R' r w') : node_Open.Call sy ks w R' :=
  Calls.mono h fun e w' he => by
    obtain ⟨r, h1, h2⟩ := he
    exact ⟨r, h1, hr r w' h2⟩
def node_Open.RV (R : Option Addr → World → Prop) (v : Value) (w : World) : Prop := match v with
  | .pointer r => R r w
  | _ => False
theorem node_Open.RV_elim {R : Option Addr → World → Prop} {v : Value} {w : World} (h : node_Open.RV R v w) : ∃ r, Ending.returned v = .returned (.pointer r) ∧ R r w := by
  unfold node_Open.RV at h
  split at h
  · exact ⟨_, rfl, h⟩
  · exact h.elim
/-- (*e2e/node.Node).Check -/
def node_Node_Check.Call (n : Option Addr) (w : World) (R : ByteArray → World → Prop) : Prop :=
  Calls Tryz.prog 26 #[.pointer n] w fun e w' => ∃ r, e = .returned (.string r) ∧ R r w'
theorem node_Node_Check.Call.mono {n} {w : World} {R R' : ByteArray → World → Prop} (h : node_Node_Check.Call n w R) (hr : ∀ r w', R r w' → R' r w') : node_Node_Check.Call n w R' :=
  Calls.mono h fun e w' he => by
    obtain ⟨r, h1, h2⟩ := he
    exact ⟨r, h1, hr r w' h2⟩
def node_Node_Check.RV (R : ByteArray → World → Prop) (v : Value) (w : World) : Prop := match v with
  | .string r => R r w
  | _ => False
theorem node_Node_Check.RV_elim {R : ByteArray → World → Prop} {v : Value} {w : World} (h : node_Node_Check.RV R v w) : ∃ r, Ending.returned v = .returned (.string r) ∧ R r w := by
  unfold node_Node_Check.RV at h
  split at h
  · exact ⟨_, rfl, h⟩
  · exact h.elim
/-- e2e/nodelaw.Match -/
def nodelaw_Match.Call (x m0 : Option Addr) (w : World) (R : Int → World → Prop) : Prop :=
  Calls Tryz.prog 27 #[.pointer x, .pointer m0] w fun e w' => ∃ r, e = .returned (.int .i64 r) ∧ R r w'
theorem nodelaw_Match.Call.mono {x m0} {w : World} {R R' : Int → World → Prop} (h : nodelaw_Match.Call x m0 w R) (hr : ∀ r w', R r w' → R' r w') : nodelaw_Match.Call x m0 w R' :=
  Calls.mono h fun e w' he => by
    obtain ⟨r, h1, h2⟩ := he
    exact ⟨r, h1, hr r w' h2⟩
def nodelaw_Match.RV (R : Int → World → Prop) (v : Value) (w : World) : Prop := match v with
  | .int .i64 r => R r w
  | _ => False
theorem nodelaw_Match.RV_elim {R : Int → World → Prop} {v : Value} {w : World} (h : nodelaw_Match.RV R v w) : ∃ r, Ending.returned v = .returned (.int .i64 r) ∧ R r w := by
  unfold nodelaw_Match.RV at h
  split at h
  · exact ⟨_, rfl, h⟩
  · exact h.elim
/-- (*e2e/nodem.Node).Steps -/
def nodem_Node_Steps.Call (n : Option Addr) (w : World) (R : Int → World → Prop) : Prop :=
  Calls Tryz.prog 28 #[.pointer n] w fun e w' => ∃ r, e = .returned (.int .i64 r) ∧ R r w'
theorem nodem_Node_Steps.Call.mono {n} {w : World} {R R' : Int → World → Prop} (h : nodem_Node_Steps.Call n w R) (hr : ∀ r w', R r w' → R' r w') : nodem_Node_Steps.Call n w R' :=
  Calls.mono h fun e w' he => by
    obtain ⟨r, h1, h2⟩ := he
    exact ⟨r, h1, hr r w' h2⟩
def nodem_Node_Steps.RV (R : Int → World → Prop) (v : Value) (w : World) : Prop := match v with
  | .int .i64 r => R r w
  | _ => False
theorem nodem_Node_Steps.RV_elim {R : Int → World → Prop} {v : Value} {w : World} (h : nodem_Node_Steps.RV R v w) : ∃ r, Ending.returned v = .returned (.int .i64 r) ∧ R r w := by
  unfold nodem_Node_Steps.RV at h
  split at h
  · exact ⟨_, rfl, h⟩
  · exact h.elim
/-- (*e2e/nodem.Node).After -/
def nodem_Node_After.Call (n : Option Addr) (k : Int) (w : World) (R : Option Addr → World → Prop) : Prop :=
  Calls Tryz.prog 29 #[.pointer n, .int .i64 k] w fun e w' => ∃ r, e = .returned (.pointer r) ∧ R r w'
theorem nodem_Node_After.Call.mono {n k} {w : World} {R R' : Option Addr → World → Prop} (h : nodem_Node_After.Call n k w R) (hr : ∀ r w', R r w' → R' r w') : nodem_Node_After.Call n k w R' :=
  Calls.mono h fun e w' he => by
    obtain ⟨r, h1, h2⟩ := he
    exact ⟨r, h1, hr r w' h2⟩
def nodem_Node_After.RV (R : Option Addr → World → Prop) (v : Value) (w : World) : Prop := match v with
  | .pointer r => R r w
  | _ => False
theorem nodem_Node_After.RV_elim {R : Option Addr → World → Prop} {v : Value} {w : World} (h : nodem_Node_After.RV R v w) : ∃ r, Ending.returned v = .returned (.pointer r) ∧ R r w := by
  unfold nodem_Node_After.RV at h
  split at h
  · exact ⟨_, rfl, h⟩
  · exact h.elim
/-- e2e/nodelaw.Alike -/
def nodelaw_Alike.Call (x m0 : Option Addr) (key : ByteArray) (w : World) (R : Bool → World → Prop) : Prop :=
  Calls Tryz.prog 30 #[.pointer x, .pointer m0, .string key] w fun e w' => ∃ r, e = .returned (.bool r) ∧ R r w'
theorem nodelaw_Alike.Call.mono {x m0 key} {w : World} {R R' : Bool → World → Prop} (h : nodelaw_Alike.Call x m0 key w R) (hr : ∀ r w', R r w' → R' r w') : nodelaw_Alike.Call x m0 key w R' :=
  Calls.mono h fun e w' he => by
    obtain ⟨r, h1, h2⟩ := he
    exact ⟨r, h1, hr r w' h2⟩
def nodelaw_Alike.RV (R : Bool → World → Prop) (v : Value) (w : World) : Prop := match v with
  | .bool r => R r w
  | _ => False
theorem nodelaw_Alike.RV_elim {R : Bool → World → Prop} {v : Value} {w : World} (h : nodelaw_Alike.RV R v w) : ∃ r, Ending.returned v = .returned (.bool r) ∧ R r w := by
  unfold nodelaw_Alike.RV at h
  split at h
  · exact ⟨_, rfl, h⟩
  · exact h.elim
/-- e2e/diskm.New -/
def diskm_New.Call  (w : World) (R : Option Addr → World → Prop) : Prop :=
  Calls Tryz.prog 31 #[] w fun e w' => ∃ r, e = .returned (.pointer r) ∧ R r w'
theorem diskm_New.Call.mono {w : World} {R R' : Option Addr → World → Prop} (h : diskm_New.Call w R) (hr : ∀ r w', R r w' → R' r w') : diskm_New.Call w R' :=
  Calls.mono h fun e w' he => by
    obtain ⟨r, h1, h2⟩ := he
    exact ⟨r, h1, hr r w' h2⟩
def diskm_New.RV (R : Option Addr → World → Prop) (v : Value) (w : World) : Prop := match v with
  | .pointer r => R r w
  | _ => False
theorem diskm_New.RV_elim {R : Option Addr → World → Prop} {v : Value} {w : World} (h : diskm_New.RV R v w) : ∃ r, Ending.returned v = .returned (.pointer r) ∧ R r w := by
  unfold diskm_New.RV at h
  split at h
  · exact ⟨_, rfl, h⟩
  · exact h.elim
/-- e2e/nodelaw.raise -/
def nodelaw_raise.Call (d : Option Addr) (id0 : Int) (w : World) (R : Option Addr → Option Addr → Int → World → Prop) : Prop :=
  Calls Tryz.prog 32 #[.pointer d, .int .i64 id0] w fun e w' => ∃ r_0 r_1 r_2, e = .returned (.agg #[.pointer r_0, .pointer r_1, .int .i64 r_2]) ∧ R r_0 r_1 r_2 w'
theorem nodelaw_raise.Call.mono {d id0} {w : World} {R R' : Option Addr → Option Addr → Int → World → Prop} (h : nodelaw_raise.Call d id0 w R) (hr : ∀ r_0 r_1 r_2 w', R r_0 r_1 r_2 w' → R' r_0 r_1 r_2 w') : nodelaw_raise.Call d id0 w R' :=
  Calls.mono h fun e w' he => by
    obtain ⟨r_0, r_1, r_2, h1, h2⟩ := he
    exact ⟨r_0, r_1, r_2, h1, hr r_0 r_1 r_2 w' h2⟩
def nodelaw_raise.RV (R : Option Addr → Option Addr → Int → World → Prop) (v : Value) (w : World) : Prop := match v with
  | .agg ⟨[.pointer r_0, .pointer r_1, .int .i64 r_2]⟩ => R r_0 r_1 r_2 w
  | _ => False
theorem nodelaw_raise.RV_elim {R : Option Addr → Option Addr → Int → World → Prop} {v : Value} {w : World} (h : nodelaw_raise.RV R v w) : ∃ r_0 r_1 r_2, Ending.returned v = .returned (.agg #[.pointer r_0, .pointer r_1, .int .i64 r_2]) ∧ R r_0 r_1 r_2 w := by
  unfold nodelaw_raise.RV at h
  split at h
  · exact ⟨_, _, _, rfl, h⟩
  · exact h.elim
/-- e2e/syncm.New -/
def syncm_New.Call (id0 : Int) (w : World) (R : Option Addr → World → Prop) : Prop :=
  Calls Tryz.prog 33 #[.int .i64 id0] w fun e w' => ∃ r, e = .returned (.pointer r) ∧ R r w'
theorem syncm_New.Call.mono {id0} {w : World} {R R' : Option Addr → World → Prop} (h : syncm_New.Call id0 w R) (hr : ∀ r w', R r w' → R' r w') : syncm_New.Call id0 w R' :=
  Calls.mono h fun e w' he => by
    obtain ⟨r, h1, h2⟩ := he
    exact ⟨r, h1, hr r w' h2⟩
def syncm_New.RV (R : Option Addr → World → Prop) (v : Value) (w : World) : Prop := match v with
  | .pointer r => R r w
  | _ => False
theorem syncm_New.RV_elim {R : Option Addr → World → Prop} {v : Value} {w : World} (h : syncm_New.RV R v w) : ∃ r, Ending.returned v = .returned (.pointer r) ∧ R r w := by
  unfold syncm_New.RV at h
  split at h
  · exact ⟨_, rfl, h⟩
  · exact h.elim
/-- e2e/kvm.New -/
def kvm_New.Call  (w : World) (R : Option Addr → World → Prop) : Prop :=
  Calls Tryz.prog 34 #[] w fun e w' => ∃ r, e = .returned (.pointer r) ∧ R r w'
theorem kvm_New.Call.mono {w : World} {R R' : Option Addr → World → Prop} (h : kvm_New.Call w R) (hr : ∀ r w', R r w' → R' r w') : kvm_New.Call w R' :=
  Calls.mono h fun e w' he => by
    obtain ⟨r, h1, h2⟩ := he
    exact ⟨r, h1, hr r w' h2⟩
def kvm_New.RV (R : Option Addr → World → Prop) (v : Value) (w : World) : Prop := match v with
  | .pointer r => R r w
  | _ => False
theorem kvm_New.RV_elim {R : Option Addr → World → Prop} {v : Value} {w : World} (h : kvm_New.RV R v w) : ∃ r, Ending.returned v = .returned (.pointer r) ∧ R r w := by
  unfold kvm_New.RV at h
  split at h
  · exact ⟨_, rfl, h⟩
  · exact h.elim
/-- e2e/nodem.open -/
def nodem_open.Call (sy ks : Option Addr) (w : World) (R : Option Addr → World → Prop) : Prop :=
  Calls Tryz.prog 35 #[.pointer sy, .pointer ks] w fun e w' => ∃ r, e = .returned (.pointer r) ∧ R r w'
theorem nodem_open.Call.mono {sy ks} {w : World} {R R' : Option Addr → World → Prop} (h : nodem_open.Call sy ks w R) (hr : ∀ r w', R r w' → R' r w') : nodem_open.Call sy ks w R' :=
  Calls.mono h fun e w' he => by
    obtain ⟨r, h1, h2⟩ := he
    exact ⟨r, h1, hr r w' h2⟩
def nodem_open.RV (R : Option Addr → World → Prop) (v : Value) (w : World) : Prop := match v with
  | .pointer r => R r w
  | _ => False
theorem nodem_open.RV_elim {R : Option Addr → World → Prop} {v : Value} {w : World} (h : nodem_open.RV R v w) : ∃ r, Ending.returned v = .returned (.pointer r) ∧ R r w := by
  unfold nodem_open.RV at h
  split at h
  · exact ⟨_, rfl, h⟩
  · exact h.elim
/-- (*e2e/diskm.Disk).Steps -/
def diskm_Disk_Steps.Call (d : Option Addr) (w : World) (R : Int → World → Prop) : Prop :=
  Calls Tryz.prog 36 #[.pointer d] w fun e w' => ∃ r, e = .returned (.int .i64 r) ∧ R r w'
theorem diskm_Disk_Steps.Call.mono {d} {w : World} {R R' : Int → World → Prop} (h : diskm_Disk_Steps.Call d w R) (hr : ∀ r w', R r w' → R' r w') : diskm_Disk_Steps.Call d w R' :=
  Calls.mono h fun e w' he => by
    obtain ⟨r, h1, h2⟩ := he
    exact ⟨r, h1, hr r w' h2⟩
def diskm_Disk_Steps.RV (R : Int → World → Prop) (v : Value) (w : World) : Prop := match v with
  | .int .i64 r => R r w
  | _ => False
theorem diskm_Disk_Steps.RV_elim {R : Int → World → Prop} {v : Value} {w : World} (h : diskm_Disk_Steps.RV R v w) : ∃ r, Ending.returned v = .returned (.int .i64 r) ∧ R r w := by
  unfold diskm_Disk_Steps.RV at h
  split at h
  · exact ⟨_, rfl, h⟩
  · exact h.elim
/-- (*e2e/diskm.Disk).Mark -/
def diskm_Disk_Mark.Call (d : Option Addr) (w : World) (R : World → Prop) : Prop :=
  Calls Tryz.prog 37 #[.pointer d] w fun e w' => e = .returned (.tuple #[]) ∧ R w'
theorem diskm_Disk_Mark.Call.mono {d} {w : World} {R R' : World → Prop} (h : diskm_Disk_Mark.Call d w R) (hr : ∀ w', R w' → R'  w') : diskm_Disk_Mark.Call d w R' :=
  Calls.mono h fun e w' he => by
    obtain ⟨h1, h2⟩ := he
    exact ⟨h1, hr  w' h2⟩
def diskm_Disk_Mark.RV (R : World → Prop) (v : Value) (w : World) : Prop := match v with
  | .tuple ⟨[]⟩ => R w
  | _ => False
theorem diskm_Disk_Mark.RV_elim {R : World → Prop} {v : Value} {w : World} (h : diskm_Disk_Mark.RV R v w) : Ending.returned v = .returned (.tuple #[]) ∧ R w := by
  unfold diskm_Disk_Mark.RV at h
  split at h
  · exact ⟨rfl, h⟩
  · exact h.elim
/-- (*e2e/syncm.Sync).Mark -/
def syncm_Sync_Mark.Call (s : Option Addr) (w : World) (R : World → Prop) : Prop :=
  Calls Tryz.prog 38 #[.pointer s] w fun e w' => e = .returned (.tuple #[]) ∧ R w'
theorem syncm_Sync_Mark.Call.mono {s} {w : World} {R R' : World → Prop} (h : syncm_Sync_Mark.Call s w R) (hr : ∀ w', R w' → R'  w') : syncm_Sync_Mark.Call s w R' :=
  Calls.mono h fun e w' he => by
    obtain ⟨h1, h2⟩ := he
    exact ⟨h1, hr  w' h2⟩
def syncm_Sync_Mark.RV (R : World → Prop) (v : Value) (w : World) : Prop := match v with
  | .tuple ⟨[]⟩ => R w
  | _ => False
theorem syncm_Sync_Mark.RV_elim {R : World → Prop} {v : Value} {w : World} (h : syncm_Sync_Mark.RV R v w) : Ending.returned v = .returned (.tuple #[]) ∧ R w := by
  unfold syncm_Sync_Mark.RV at h
  split at h
  · exact ⟨rfl, h⟩
  · exact h.elim
/-- (*e2e/node.Node).Tick -/
def node_Node_Tick.Call (n : Option Addr) (w : World) (R : Int → Option Addr → Nat → Nat → Option Addr → Nat → Nat → World → Prop) : Prop :=
  Calls Tryz.prog 39 #[.pointer n] w fun e w' => ∃ r_0 r_1_b r_1_l r_1_c r_2_b r_2_l r_2_c, e = .returned (.agg #[.int .i64 r_0, .slice r_1_b r_1_l r_1_c, .slice r_2_b r_2_l r_2_c]) ∧ R r_0 r_1_b r_1_l r_1_c r_2_b r_2_l r_2_c w'
theorem node_Node_Tick.Call.mono {n} {w : World} {R R' : Int → Option Addr → Nat → Nat → Option Addr → Nat → Nat → World → Prop} (h : node_Node_Tick.Call n w R) (hr : ∀ r_0 r_1_b r_1_l r_1_c r_2_b r_2_l r_2_c w', R r_0 r_1_b r_1_l r_1_c r_2_b r_2_l r_2_c w' → R' r_0 r_1_b r_1_l r_1_c r_2_b r_2_l r_2_c w') : node_Node_Tick.Call n w R' :=
  Calls.mono h fun e w' he => by
    obtain ⟨r_0, r_1_b, r_1_l, r_1_c, r_2_b, r_2_l, r_2_c, h1, h2⟩ := he
    exact ⟨r_0, r_1_b, r_1_l, r_1_c, r_2_b, r_2_l, r_2_c, h1, hr r_0 r_1_b r_1_l r_1_c r_2_b r_2_l r_2_c w' h2⟩
def node_Node_Tick.RV (R : Int → Option Addr → Nat → Nat → Option Addr → Nat → Nat → World → Prop) (v : Value) (w : World) : Prop := match v with
  | .agg ⟨[.int .i64 r_0, .slice r_1_b r_1_l r_1_c, .slice r_2_b r_2_l r_2_c]⟩ => R r_0 r_1_b r_1_l r_1_c r_2_b r_2_l r_2_c w
  | _ => False
theorem node_Node_Tick.RV_elim {R : Int → Option Addr → Nat → Nat → Option Addr → Nat → Nat → World → Prop} {v : Value} {w : World} (h : node_Node_Tick.RV R v w) : ∃ r_0 r_1_b r_1_l r_1_c r_2_b r_2_l r_2_c, Ending.returned v = .returned (.agg #[.int .i64 r_0, .slice r_1_b r_1_l r_1_c, .slice r_2_b r_2_l r_2_c]) ∧ R r_0 r_1_b r_1_l r_1_c r_2_b r_2_l r_2_c w := by
  unfold node_Node_Tick.RV at h
  split at h
  · exact ⟨_, _, _, _, _, _, _, rfl, h⟩
  · exact h.elim
/-- (*e2e/node.Node).Receive -/
def node_Node_Receive.Call (n : Option Addr) (raw : ByteArray) (w : World) (R : Int → Option Addr → Nat → Nat → Option Addr → Nat → Nat → World → Prop) : Prop :=
  Calls Tryz.prog 40 #[.pointer n, .string raw] w fun e w' => ∃ r_0 r_1_b r_1_l r_1_c r_2_b r_2_l r_2_c, e = .returned (.agg #[.int .i64 r_0, .slice r_1_b r_1_l r_1_c, .slice r_2_b r_2_l r_2_c]) ∧ R r_0 r_1_b r_1_l r_1_c r_2_b r_2_l r_2_c w'
theorem node_Node_Receive.Call.mono {n raw} {w : World} {R R' : Int → Option Addr → Nat → Nat → Option Addr → Nat → Nat → World → Prop} (h : node_Node_Receive.Call n raw w R) (hr : ∀ r_0 r_1_b r_1_l r_1_c r_2_b r_2_l r_2_c w', R r_0 r_1_b r_1_l r_1_c r_2_b r_2_l r_2_c w' → R' r_0 r_1_b r_1_l r_1_c r_2_b r_2_l r_2_c w') : node_Node_Receive.Call n raw w R' :=
  Calls.mono h fun e w' he => by
    obtain ⟨r_0, r_1_b, r_1_l, r_1_c, r_2_b, r_2_l, r_2_c, h1, h2⟩ := he
    exact ⟨r_0, r_1_b, r_1_l, r_1_c, r_2_b, r_2_l, r_2_c, h1, hr r_0 r_1_b r_1_l r_1_c r_2_b r_2_l r_2_c w' h2⟩
def node_Node_Receive.RV (R : Int → Option Addr → Nat → Nat → Option Addr → Nat → Nat → World → Prop) (v : Value) (w : World) : Prop := match v with
  | .agg ⟨[.int .i64 r_0, .slice r_1_b r_1_l r_1_c, .slice r_2_b r_2_l r_2_c]⟩ => R r_0 r_1_b r_1_l r_1_c r_2_b r_2_l r_2_c w
  | _ => False
theorem node_Node_Receive.RV_elim {R : Int → Option Addr → Nat → Nat → Option Addr → Nat → Nat → World → Prop} {v : Value} {w : World} (h : node_Node_Receive.RV R v w) : ∃ r_0 r_1_b r_1_l r_1_c r_2_b r_2_l r_2_c, Ending.returned v = .returned (.agg #[.int .i64 r_0, .slice r_1_b r_1_l r_1_c, .slice r_2_b r_2_l r_2_c]) ∧ R r_0 r_1_b r_1_l r_1_c r_2_b r_2_l r_2_c w := by
  unfold node_Node_Receive.RV at h
  split at h
  · exact ⟨_, _, _, _, _, _, _, rfl, h⟩
  · exact h.elim
/-- e2e/nodelaw.CmdOf -/
def nodelaw_CmdOf.Call (o_0 o_1 o_2 o_3 : Int) (o_4 o_5 : ByteArray) (w : World) (R : Int → Int → Int → ByteArray → ByteArray → ByteArray → World → Prop) : Prop :=
  Calls Tryz.prog 41 #[.agg #[.int .i64 o_0, .int .i64 o_1, .int .i64 o_2, .int .i64 o_3, .string o_4, .string o_5]] w fun e w' => ∃ r_0 r_1 r_2 r_3 r_4 r_5, e = .returned (.agg #[.int .i64 r_0, .int .i64 r_1, .int .i64 r_2, .string r_3, .string r_4, .string r_5]) ∧ R r_0 r_1 r_2 r_3 r_4 r_5 w'
theorem nodelaw_CmdOf.Call.mono {o_0 o_1 o_2 o_3 o_4 o_5} {w : World} {R R' : Int → Int → Int → ByteArray → ByteArray → ByteArray → World → Prop} (h : nodelaw_CmdOf.Call o_0 o_1 o_2 o_3 o_4 o_5 w R) (hr : ∀ r_0 r_1 r_2 r_3 r_4 r_5 w', R r_0 r_1 r_2 r_3 r_4 r_5 w' → R' r_0 r_1 r_2 r_3 r_4 r_5 w') : nodelaw_CmdOf.Call o_0 o_1 o_2 o_3 o_4 o_5 w R' :=
  Calls.mono h fun e w' he => by
    obtain ⟨r_0, r_1, r_2, r_3, r_4, r_5, h1, h2⟩ := he
    exact ⟨r_0, r_1, r_2, r_3, r_4, r_5, h1, hr r_0 r_1 r_2 r_3 r_4 r_5 w' h2⟩
def nodelaw_CmdOf.RV (R : Int → Int → Int → ByteArray → ByteArray → ByteArray → World → Prop) (v : Value) (w : World) : Prop := match v with
  | .agg ⟨[.int .i64 r_0, .int .i64 r_1, .int .i64 r_2, .string r_3, .string r_4, .string r_5]⟩ => R r_0 r_1 r_2 r_3 r_4 r_5 w
  | _ => False
theorem nodelaw_CmdOf.RV_elim {R : Int → Int → Int → ByteArray → ByteArray → ByteArray → World → Prop} {v : Value} {w : World} (h : nodelaw_CmdOf.RV R v w) : ∃ r_0 r_1 r_2 r_3 r_4 r_5, Ending.returned v = .returned (.agg #[.int .i64 r_0, .int .i64 r_1, .int .i64 r_2, .string r_3, .string r_4, .string r_5]) ∧ R r_0 r_1 r_2 r_3 r_4 r_5 w := by
  unfold nodelaw_CmdOf.RV at h
  split at h
  · exact ⟨_, _, _, _, _, _, rfl, h⟩
  · exact h.elim
/-- (*e2e/node.Node).Call -/
def node_Node_Call.Call (n : Option Addr) (c_0 c_1 c_2 : Int) (c_3 c_4 c_5 : ByteArray) (w : World) (R : Int → Option Addr → Nat → Nat → Option Addr → Nat → Nat → World → Prop) : Prop :=
  Calls Tryz.prog 42 #[.pointer n, .agg #[.int .i64 c_0, .int .i64 c_1, .int .i64 c_2, .string c_3, .string c_4, .string c_5]] w fun e w' => ∃ r_0 r_1_b r_1_l r_1_c r_2_b r_2_l r_2_c, e = .returned (.agg #[.int .i64 r_0, .slice r_1_b r_1_l r_1_c, .slice r_2_b r_2_l r_2_c]) ∧ R r_0 r_1_b r_1_l r_1_c r_2_b r_2_l r_2_c w'
theorem node_Node_Call.Call.mono {n c_0 c_1 c_2 c_3 c_4 c_5} {w : World} {R R' : Int → Option Addr → Nat → Nat → Option Addr → Nat → Nat → World → Prop} (h : node_Node_Call.Call n c_0 c_1 c_2 c_3 c_4 c_5 w R) (hr : ∀ r_0 r_1_b r_1_l r_1_c r_2_b r_2_l r_2_c w', R r_0 r_1_b r_1_l r_1_c r_2_b r_2_l r_2_c w' → R' r_0 r_1_b r_1_l r_1_c r_2_b r_2_l r_2_c w') : node_Node_Call.Call n c_0 c_1 c_2 c_3 c_4 c_5 w R' :=
  Calls.mono h fun e w' he => by
    obtain ⟨r_0, r_1_b, r_1_l, r_1_c, r_2_b, r_2_l, r_2_c, h1, h2⟩ := he
    exact ⟨r_0, r_1_b, r_1_l, r_1_c, r_2_b, r_2_l, r_2_c, h1, hr r_0 r_1_b r_1_l r_1_c r_2_b r_2_l r_2_c w' h2⟩
def node_Node_Call.RV (R : Int → Option Addr → Nat → Nat → Option Addr → Nat → Nat → World → Prop) (v : Value) (w : World) : Prop := match v with
  | .agg ⟨[.int .i64 r_0, .slice r_1_b r_1_l r_1_c, .slice r_2_b r_2_l r_2_c]⟩ => R r_0 r_1_b r_1_l r_1_c r_2_b r_2_l r_2_c w
  | _ => False
theorem node_Node_Call.RV_elim {R : Int → Option Addr → Nat → Nat → Option Addr → Nat → Nat → World → Prop} {v : Value} {w : World} (h : node_Node_Call.RV R v w) : ∃ r_0 r_1_b r_1_l r_1_c r_2_b r_2_l r_2_c, Ending.returned v = .returned (.agg #[.int .i64 r_0, .slice r_1_b r_1_l r_1_c, .slice r_2_b r_2_l r_2_c]) ∧ R r_0 r_1_b r_1_l r_1_c r_2_b r_2_l r_2_c w := by
  unfold node_Node_Call.RV at h
  split at h
  · exact ⟨_, _, _, _, _, _, _, rfl, h⟩
  · exact h.elim
/-- (*e2e/nodem.Node).Tick -/
def nodem_Node_Tick.Call (n : Option Addr) (w : World) (R : Int → Option Addr → Nat → Nat → Option Addr → Nat → Nat → World → Prop) : Prop :=
  Calls Tryz.prog 43 #[.pointer n] w fun e w' => ∃ r_0 r_1_b r_1_l r_1_c r_2_b r_2_l r_2_c, e = .returned (.agg #[.int .i64 r_0, .slice r_1_b r_1_l r_1_c, .slice r_2_b r_2_l r_2_c]) ∧ R r_0 r_1_b r_1_l r_1_c r_2_b r_2_l r_2_c w'
theorem nodem_Node_Tick.Call.mono {n} {w : World} {R R' : Int → Option Addr → Nat → Nat → Option Addr → Nat → Nat → World → Prop} (h : nodem_Node_Tick.Call n w R) (hr : ∀ r_0 r_1_b r_1_l r_1_c r_2_b r_2_l r_2_c w', R r_0 r_1_b r_1_l r_1_c r_2_b r_2_l r_2_c w' → R' r_0 r_1_b r_1_l r_1_c r_2_b r_2_l r_2_c w') : nodem_Node_Tick.Call n w R' :=
  Calls.mono h fun e w' he => by
    obtain ⟨r_0, r_1_b, r_1_l, r_1_c, r_2_b, r_2_l, r_2_c, h1, h2⟩ := he
    exact ⟨r_0, r_1_b, r_1_l, r_1_c, r_2_b, r_2_l, r_2_c, h1, hr r_0 r_1_b r_1_l r_1_c r_2_b r_2_l r_2_c w' h2⟩
def nodem_Node_Tick.RV (R : Int → Option Addr → Nat → Nat → Option Addr → Nat → Nat → World → Prop) (v : Value) (w : World) : Prop := match v with
  | .agg ⟨[.int .i64 r_0, .slice r_1_b r_1_l r_1_c, .slice r_2_b r_2_l r_2_c]⟩ => R r_0 r_1_b r_1_l r_1_c r_2_b r_2_l r_2_c w
  | _ => False
theorem nodem_Node_Tick.RV_elim {R : Int → Option Addr → Nat → Nat → Option Addr → Nat → Nat → World → Prop} {v : Value} {w : World} (h : nodem_Node_Tick.RV R v w) : ∃ r_0 r_1_b r_1_l r_1_c r_2_b r_2_l r_2_c, Ending.returned v = .returned (.agg #[.int .i64 r_0, .slice r_1_b r_1_l r_1_c, .slice r_2_b r_2_l r_2_c]) ∧ R r_0 r_1_b r_1_l r_1_c r_2_b r_2_l r_2_c w := by
  unfold nodem_Node_Tick.RV at h
  split at h
  · exact ⟨_, _, _, _, _, _, _, rfl, h⟩
  · exact h.elim
/-- (*e2e/nodem.Node).Receive -/
def nodem_Node_Receive.Call (n : Option Addr) (raw : ByteArray) (w : World) (R : Int → Option Addr → Nat → Nat → Option Addr → Nat → Nat → World → Prop) : Prop :=
  Calls Tryz.prog 44 #[.pointer n, .string raw] w fun e w' => ∃ r_0 r_1_b r_1_l r_1_c r_2_b r_2_l r_2_c, e = .returned (.agg #[.int .i64 r_0, .slice r_1_b r_1_l r_1_c, .slice r_2_b r_2_l r_2_c]) ∧ R r_0 r_1_b r_1_l r_1_c r_2_b r_2_l r_2_c w'
theorem nodem_Node_Receive.Call.mono {n raw} {w : World} {R R' : Int → Option Addr → Nat → Nat → Option Addr → Nat → Nat → World → Prop} (h : nodem_Node_Receive.Call n raw w R) (hr : ∀ r_0 r_1_b r_1_l r_1_c r_2_b r_2_l r_2_c w', R r_0 r_1_b r_1_l r_1_c r_2_b r_2_l r_2_c w' → R' r_0 r_1_b r_1_l r_1_c r_2_b r_2_l r_2_c w') : nodem_Node_Receive.Call n raw w R' :=
  Calls.mono h fun e w' he => by
    obtain ⟨r_0, r_1_b, r_1_l, r_1_c, r_2_b, r_2_l, r_2_c, h1, h2⟩ := he
    exact ⟨r_0, r_1_b, r_1_l, r_1_c, r_2_b, r_2_l, r_2_c, h1, hr r_0 r_1_b r_1_l r_1_c r_2_b r_2_l r_2_c w' h2⟩
def nodem_Node_Receive.RV (R : Int → Option Addr → Nat → Nat → Option Addr → Nat → Nat → World → Prop) (v : Value) (w : World) : Prop := match v with
  | .agg ⟨[.int .i64 r_0, .slice r_1_b r_1_l r_1_c, .slice r_2_b r_2_l r_2_c]⟩ => R r_0 r_1_b r_1_l r_1_c r_2_b r_2_l r_2_c w
  | _ => False
theorem nodem_Node_Receive.RV_elim {R : Int → Option Addr → Nat → Nat → Option Addr → Nat → Nat → World → Prop} {v : Value} {w : World} (h : nodem_Node_Receive.RV R v w) : ∃ r_0 r_1_b r_1_l r_1_c r_2_b r_2_l r_2_c, Ending.returned v = .returned (.agg #[.int .i64 r_0, .slice r_1_b r_1_l r_1_c, .slice r_2_b r_2_l r_2_c]) ∧ R r_0 r_1_b r_1_l r_1_c r_2_b r_2_l r_2_c w := by
  unfold nodem_Node_Receive.RV at h
  split at h
  · exact ⟨_, _, _, _, _, _, _, rfl, h⟩
  · exact h.elim
/-- (*e2e/nodem.Node).Call -/
def nodem_Node_Call.Call (n : Option Addr) (c_0 c_1 c_2 : Int) (c_3 c_4 c_5 : ByteArray) (w : World) (R : Int → Option Addr → Nat → Nat → Option Addr → Nat → Nat → World → Prop) : Prop :=
  Calls Tryz.prog 45 #[.pointer n, .agg #[.int .i64 c_0, .int .i64 c_1, .int .i64 c_2, .string c_3, .string c_4, .string c_5]] w fun e w' => ∃ r_0 r_1_b r_1_l r_1_c r_2_b r_2_l r_2_c, e = .returned (.agg #[.int .i64 r_0, .slice r_1_b r_1_l r_1_c, .slice r_2_b r_2_l r_2_c]) ∧ R r_0 r_1_b r_1_l r_1_c r_2_b r_2_l r_2_c w'
theorem nodem_Node_Call.Call.mono {n c_0 c_1 c_2 c_3 c_4 c_5} {w : World} {R R' : Int → Option Addr → Nat → Nat → Option Addr → Nat → Nat → World → Prop} (h : nodem_Node_Call.Call n c_0 c_1 c_2 c_3 c_4 c_5 w R) (hr : ∀ r_0 r_1_b r_1_l r_1_c r_2_b r_2_l r_2_c w', R r_0 r_1_b r_1_l r_1_c r_2_b r_2_l r_2_c w' → R' r_0 r_1_b r_1_l r_1_c r_2_b r_2_l r_2_c w') : nodem_Node_Call.Call n c_0 c_1 c_2 c_3 c_4 c_5 w R' :=
  Calls.mono h fun e w' he => by
    obtain ⟨r_0, r_1_b, r_1_l, r_1_c, r_2_b, r_2_l, r_2_c, h1, h2⟩ := he
    exact ⟨r_0, r_1_b, r_1_l, r_1_c, r_2_b, r_2_l, r_2_c, h1, hr r_0 r_1_b r_1_l r_1_c r_2_b r_2_l r_2_c w' h2⟩
def nodem_Node_Call.RV (R : Int → Option Addr → Nat → Nat → Option Addr → Nat → Nat → World → Prop) (v : Value) (w : World) : Prop := match v with
  | .agg ⟨[.int .i64 r_0, .slice r_1_b r_1_l r_1_c, .slice r_2_b r_2_l r_2_c]⟩ => R r_0 r_1_b r_1_l r_1_c r_2_b r_2_l r_2_c w
  | _ => False
theorem nodem_Node_Call.RV_elim {R : Int → Option Addr → Nat → Nat → Option Addr → Nat → Nat → World → Prop} {v : Value} {w : World} (h : nodem_Node_Call.RV R v w) : ∃ r_0 r_1_b r_1_l r_1_c r_2_b r_2_l r_2_c, Ending.returned v = .returned (.agg #[.int .i64 r_0, .slice r_1_b r_1_l r_1_c, .slice r_2_b r_2_l r_2_c]) ∧ R r_0 r_1_b r_1_l r_1_c r_2_b r_2_l r_2_c w := by
  unfold nodem_Node_Call.RV at h
  split at h
  · exact ⟨_, _, _, _, _, _, _, rfl, h⟩
  · exact h.elim
/-- e2e/nodelaw.SameAns -/
def nodelaw_SameAns.Call (a_0 : Int) (a_1 : ByteArray) (b_0 : Int) (b_1 : ByteArray) (w : World) (R : Bool → World → Prop) : Prop :=
  Calls Tryz.prog 46 #[.agg #[.int .i64 a_0, .string a_1], .agg #[.int .i64 b_0, .string b_1]] w fun e w' => ∃ r, e = .returned (.bool r) ∧ R r w'
theorem nodelaw_SameAns.Call.mono {a_0 a_1 b_0 b_1} {w : World} {R R' : Bool → World → Prop} (h : nodelaw_SameAns.Call a_0 a_1 b_0 b_1 w R) (hr : ∀ r w', R r w' → R' r w') : nodelaw_SameAns.Call a_0 a_1 b_0 b_1 w R' :=
  Calls.mono h fun e w' he => by
    obtain ⟨r, h1, h2⟩ := he
    exact ⟨r, h1, hr r w' h2⟩
def nodelaw_SameAns.RV (R : Bool → World → Prop) (v : Value) (w : World) : Prop := match v with
  | .bool r => R r w
  | _ => False
theorem nodelaw_SameAns.RV_elim {R : Bool → World → Prop} {v : Value} {w : World} (h : nodelaw_SameAns.RV R v w) : ∃ r, Ending.returned v = .returned (.bool r) ∧ R r w := by
  unfold nodelaw_SameAns.RV at h
  split at h
  · exact ⟨_, rfl, h⟩
  · exact h.elim
/-- e2e/nodelaw.SameAt -/
def nodelaw_SameAt.Call (x m0 : Option Addr) (i : Int) (w : World) (R : Bool → World → Prop) : Prop :=
  Calls Tryz.prog 47 #[.pointer x, .pointer m0, .int .i64 i] w fun e w' => ∃ r, e = .returned (.bool r) ∧ R r w'
theorem nodelaw_SameAt.Call.mono {x m0 i} {w : World} {R R' : Bool → World → Prop} (h : nodelaw_SameAt.Call x m0 i w R) (hr : ∀ r w', R r w' → R' r w') : nodelaw_SameAt.Call x m0 i w R' :=
  Calls.mono h fun e w' he => by
    obtain ⟨r, h1, h2⟩ := he
    exact ⟨r, h1, hr r w' h2⟩
def nodelaw_SameAt.RV (R : Bool → World → Prop) (v : Value) (w : World) : Prop := match v with
  | .bool r => R r w
  | _ => False
theorem nodelaw_SameAt.RV_elim {R : Bool → World → Prop} {v : Value} {w : World} (h : nodelaw_SameAt.RV R v w) : ∃ r, Ending.returned v = .returned (.bool r) ∧ R r w := by
  unfold nodelaw_SameAt.RV at h
  split at h
  · exact ⟨_, rfl, h⟩
  · exact h.elim
/-- e2e/nodelaw.SameTermAt -/
def nodelaw_SameTermAt.Call (x m0 : Option Addr) (i : Int) (w : World) (R : Bool → World → Prop) : Prop :=
  Calls Tryz.prog 48 #[.pointer x, .pointer m0, .int .i64 i] w fun e w' => ∃ r, e = .returned (.bool r) ∧ R r w'
theorem nodelaw_SameTermAt.Call.mono {x m0 i} {w : World} {R R' : Bool → World → Prop} (h : nodelaw_SameTermAt.Call x m0 i w R) (hr : ∀ r w', R r w' → R' r w') : nodelaw_SameTermAt.Call x m0 i w R' :=
  Calls.mono h fun e w' he => by
    obtain ⟨r, h1, h2⟩ := he
    exact ⟨r, h1, hr r w' h2⟩
def nodelaw_SameTermAt.RV (R : Bool → World → Prop) (v : Value) (w : World) : Prop := match v with
  | .bool r => R r w
  | _ => False
theorem nodelaw_SameTermAt.RV_elim {R : Bool → World → Prop} {v : Value} {w : World} (h : nodelaw_SameTermAt.RV R v w) : ∃ r, Ending.returned v = .returned (.bool r) ∧ R r w := by
  unfold nodelaw_SameTermAt.RV at h
  split at h
  · exact ⟨_, rfl, h⟩
  · exact h.elim
/-- e2e/nodelaw.SameVal -/
def nodelaw_SameVal.Call (x m0 : Option Addr) (key : ByteArray) (w : World) (R : Bool → World → Prop) : Prop :=
  Calls Tryz.prog 49 #[.pointer x, .pointer m0, .string key] w fun e w' => ∃ r, e = .returned (.bool r) ∧ R r w'
theorem nodelaw_SameVal.Call.mono {x m0 key} {w : World} {R R' : Bool → World → Prop} (h : nodelaw_SameVal.Call x m0 key w R) (hr : ∀ r w', R r w' → R' r w') : nodelaw_SameVal.Call x m0 key w R' :=
  Calls.mono h fun e w' he => by
    obtain ⟨r, h1, h2⟩ := he
    exact ⟨r, h1, hr r w' h2⟩
def nodelaw_SameVal.RV (R : Bool → World → Prop) (v : Value) (w : World) : Prop := match v with
  | .bool r => R r w
  | _ => False
theorem nodelaw_SameVal.RV_elim {R : Bool → World → Prop} {v : Value} {w : World} (h : nodelaw_SameVal.RV R v w) : ∃ r, Ending.returned v = .returned (.bool r) ∧ R r w := by
  unfold nodelaw_SameVal.RV at h
  split at h
  · exact ⟨_, rfl, h⟩
  · exact h.elim
/-- e2e/nodelaw.SameView -/
def nodelaw_SameView.Call (x m0 : Option Addr) (w : World) (R : Bool → World → Prop) : Prop :=
  Calls Tryz.prog 50 #[.pointer x, .pointer m0] w fun e w' => ∃ r, e = .returned (.bool r) ∧ R r w'
theorem nodelaw_SameView.Call.mono {x m0} {w : World} {R R' : Bool → World → Prop} (h : nodelaw_SameView.Call x m0 w R) (hr : ∀ r w', R r w' → R' r w') : nodelaw_SameView.Call x m0 w R' :=
  Calls.mono h fun e w' he => by
    obtain ⟨r, h1, h2⟩ := he
    exact ⟨r, h1, hr r w' h2⟩
def nodelaw_SameView.RV (R : Bool → World → Prop) (v : Value) (w : World) : Prop := match v with
  | .bool r => R r w
  | _ => False
theorem nodelaw_SameView.RV_elim {R : Bool → World → Prop} {v : Value} {w : World} (h : nodelaw_SameView.RV R v w) : ∃ r, Ending.returned v = .returned (.bool r) ∧ R r w := by
  unfold nodelaw_SameView.RV at h
  split at h
  · exact ⟨_, rfl, h⟩
  · exact h.elim
/-- e2e/nodelaw.SameLen -/
def nodelaw_SameLen.Call (x m0 : Option Addr) (w : World) (R : Bool → World → Prop) : Prop :=
  Calls Tryz.prog 51 #[.pointer x, .pointer m0] w fun e w' => ∃ r, e = .returned (.bool r) ∧ R r w'
theorem nodelaw_SameLen.Call.mono {x m0} {w : World} {R R' : Bool → World → Prop} (h : nodelaw_SameLen.Call x m0 w R) (hr : ∀ r w', R r w' → R' r w') : nodelaw_SameLen.Call x m0 w R' :=
  Calls.mono h fun e w' he => by
    obtain ⟨r, h1, h2⟩ := he
    exact ⟨r, h1, hr r w' h2⟩
def nodelaw_SameLen.RV (R : Bool → World → Prop) (v : Value) (w : World) : Prop := match v with
  | .bool r => R r w
  | _ => False
theorem nodelaw_SameLen.RV_elim {R : Bool → World → Prop} {v : Value} {w : World} (h : nodelaw_SameLen.RV R v w) : ∃ r, Ending.returned v = .returned (.bool r) ∧ R r w := by
  unfold nodelaw_SameLen.RV at h
  split at h
  · exact ⟨_, rfl, h⟩
  · exact h.elim
/-- e2e/nodelaw.SameKeyAt -/
def nodelaw_SameKeyAt.Call (x m0 : Option Addr) (i : Int) (w : World) (R : Bool → World → Prop) : Prop :=
  Calls Tryz.prog 52 #[.pointer x, .pointer m0, .int .i64 i] w fun e w' => ∃ r, e = .returned (.bool r) ∧ R r w'
theorem nodelaw_SameKeyAt.Call.mono {x m0 i} {w : World} {R R' : Bool → World → Prop} (h : nodelaw_SameKeyAt.Call x m0 i w R) (hr : ∀ r w', R r w' → R' r w') : nodelaw_SameKeyAt.Call x m0 i w R' :=
  Calls.mono h fun e w' he => by
    obtain ⟨r, h1, h2⟩ := he
    exact ⟨r, h1, hr r w' h2⟩
def nodelaw_SameKeyAt.RV (R : Bool → World → Prop) (v : Value) (w : World) : Prop := match v with
  | .bool r => R r w
  | _ => False
theorem nodelaw_SameKeyAt.RV_elim {R : Bool → World → Prop} {v : Value} {w : World} (h : nodelaw_SameKeyAt.RV R v w) : ∃ r, Ending.returned v = .returned (.bool r) ∧ R r w := by
  unfold nodelaw_SameKeyAt.RV at h
  split at h
  · exact ⟨_, rfl, h⟩
  · exact h.elim
/-- e2e/nodelaw.SameSess -/
def nodelaw_SameSess.Call (x m0 : Option Addr) (client : Int) (w : World) (R : Bool → World → Prop) : Prop :=
  Calls Tryz.prog 53 #[.pointer x, .pointer m0, .int .i64 client] w fun e w' => ∃ r, e = .returned (.bool r) ∧ R r w'
theorem nodelaw_SameSess.Call.mono {x m0 client} {w : World} {R R' : Bool → World → Prop} (h : nodelaw_SameSess.Call x m0 client w R) (hr : ∀ r w', R r w' → R' r w') : nodelaw_SameSess.Call x m0 client w R' :=
  Calls.mono h fun e w' he => by
    obtain ⟨r, h1, h2⟩ := he
    exact ⟨r, h1, hr r w' h2⟩
def nodelaw_SameSess.RV (R : Bool → World → Prop) (v : Value) (w : World) : Prop := match v with
  | .bool r => R r w
  | _ => False
theorem nodelaw_SameSess.RV_elim {R : Bool → World → Prop} {v : Value} {w : World} (h : nodelaw_SameSess.RV R v w) : ∃ r, Ending.returned v = .returned (.bool r) ∧ R r w := by
  unfold nodelaw_SameSess.RV at h
  split at h
  · exact ⟨_, rfl, h⟩
  · exact h.elim
/-- e2e/nodelaw.MsgOf -/
def nodelaw_MsgOf.Call (o_0 o_1 o_2 o_3 : Int) (o_4 o_5 : ByteArray) (w : World) (R : Int → Int → Int → Int → Int → Int → Int → Bool → Option Addr → Nat → Nat → ByteArray → World → Prop) : Prop :=
  Calls Tryz.prog 54 #[.agg #[.int .i64 o_0, .int .i64 o_1, .int .i64 o_2, .int .i64 o_3, .string o_4, .string o_5]] w fun e w' => ∃ r_0 r_1 r_2 r_3 r_4 r_5 r_6 r_7 r_8_b r_8_l r_8_c r_9, e = .returned (.agg #[.int .i64 r_0, .int .i64 r_1, .int .i64 r_2, .int .i64 r_3, .int .i64 r_4, .int .i64 r_5, .int .i64 r_6, .bool r_7, .slice r_8_b r_8_l r_8_c, .string r_9]) ∧ R r_0 r_1 r_2 r_3 r_4 r_5 r_6 r_7 r_8_b r_8_l r_8_c r_9 w'
theorem nodelaw_MsgOf.Call.mono {o_0 o_1 o_2 o_3 o_4 o_5} {w : World} {R R' : Int → Int → Int → Int → Int → Int → Int → Bool → Option Addr → Nat → Nat → ByteArray → World → Prop} (h : nodelaw_MsgOf.Call o_0 o_1 o_2 o_3 o_4 o_5 w R) (hr : ∀ r_0 r_1 r_2 r_3 r_4 r_5 r_6 r_7 r_8_b r_8_l r_8_c r_9 w', R r_0 r_1 r_2 r_3 r_4 r_5 r_6 r_7 r_8_b r_8_l r_8_c r_9 w' → R' r_0 r_1 r_2 r_3 r_4 r_5 r_6 r_7 r_8_b r_8_l r_8_c r_9 w') : nodelaw_MsgOf.Call o_0 o_1 o_2 o_3 o_4 o_5 w R' :=
  Calls.mono h fun e w' he => by
    obtain ⟨r_0, r_1, r_2, r_3, r_4, r_5, r_6, r_7, r_8_b, r_8_l, r_8_c, r_9, h1, h2⟩ := he
    exact ⟨r_0, r_1, r_2, r_3, r_4, r_5, r_6, r_7, r_8_b, r_8_l, r_8_c, r_9, h1, hr r_0 r_1 r_2 r_3 r_4 r_5 r_6 r_7 r_8_b r_8_l r_8_c r_9 w' h2⟩
def nodelaw_MsgOf.RV (R : Int → Int → Int → Int → Int → Int → Int → Bool → Option Addr → Nat → Nat → ByteArray → World → Prop) (v : Value) (w : World) : Prop := match v with
  | .agg ⟨[.int .i64 r_0, .int .i64 r_1, .int .i64 r_2, .int .i64 r_3, .int .i64 r_4, .int .i64 r_5, .int .i64 r_6, .bool r_7, .slice r_8_b r_8_l r_8_c, .string r_9]⟩ => R r_0 r_1 r_2 r_3 r_4 r_5 r_6 r_7 r_8_b r_8_l r_8_c r_9 w
  | _ => False
theorem nodelaw_MsgOf.RV_elim {R : Int → Int → Int → Int → Int → Int → Int → Bool → Option Addr → Nat → Nat → ByteArray → World → Prop} {v : Value} {w : World} (h : nodelaw_MsgOf.RV R v w) : ∃ r_0 r_1 r_2 r_3 r_4 r_5 r_6 r_7 r_8_b r_8_l r_8_c r_9, Ending.returned v = .returned (.agg #[.int .i64 r_0, .int .i64 r_1, .int .i64 r_2, .int .i64 r_3, .int .i64 r_4, .int .i64 r_5, .int .i64 r_6, .bool r_7, .slice r_8_b r_8_l r_8_c, .string r_9]) ∧ R r_0 r_1 r_2 r_3 r_4 r_5 r_6 r_7 r_8_b r_8_l r_8_c r_9 w := by
  unfold nodelaw_MsgOf.RV at h
  split at h
  · exact ⟨_, _, _, _, _, _, _, _, _, _, _, _, rfl, h⟩
  · exact h.elim
/-- e2e/nodelaw.SameEncode -/
def nodelaw_SameEncode.Call (g_0 g_1 g_2 g_3 g_4 g_5 g_6 : Int) (g_7 : Bool) (g_8_b : Option Addr) (g_8_l g_8_c : Nat) (g_9 : ByteArray) (h0_0 h0_1 h0_2 h0_3 h0_4 h0_5 h0_6 : Int) (h0_7 : Bool) (h0_8_b : Option Addr) (h0_8_l h0_8_c : Nat) (h0_9 : ByteArray) (w : World) (R : Bool → World → Prop) : Prop :=
  Calls Tryz.prog 55 #[.agg #[.int .i64 g_0, .int .i64 g_1, .int .i64 g_2, .int .i64 g_3, .int .i64 g_4, .int .i64 g_5, .int .i64 g_6, .bool g_7, .slice g_8_b g_8_l g_8_c, .string g_9], .agg #[.int .i64 h0_0, .int .i64 h0_1, .int .i64 h0_2, .int .i64 h0_3, .int .i64 h0_4, .int .i64 h0_5, .int .i64 h0_6, .bool h0_7, .slice h0_8_b h0_8_l h0_8_c, .string h0_9]] w fun e w' => ∃ r, e = .returned (.bool r) ∧ R r w'
theorem nodelaw_SameEncode.Call.mono {g_0 g_1 g_2 g_3 g_4 g_5 g_6 g_7 g_8_b g_8_l g_8_c g_9 h0_0 h0_1 h0_2 h0_3 h0_4 h0_5 h0_6 h0_7 h0_8_b h0_8_l h0_8_c h0_9} {w : World} {R R' : Bool → World → Prop} (h : nodelaw_SameEncode.Call g_0 g_1 g_2 g_3 g_4 g_5 g_6 g_7 g_8_b g_8_l g_8_c g_9 h0_0 h0_1 h0_2 h0_3 h0_4 h0_5 h0_6 h0_7 h0_8_b h0_8_l h0_8_c h0_9 w R) (hr : ∀ r w', R r w' → R' r w') : nodelaw_SameEncode.Call g_0 g_1 g_2 g_3 g_4 g_5 g_6 g_7 g_8_b g_8_l g_8_c g_9 h0_0 h0_1 h0_2 h0_3 h0_4 h0_5 h0_6 h0_7 h0_8_b h0_8_l h0_8_c h0_9 w R' :=
  Calls.mono h fun e w' he => by
    obtain ⟨r, h1, h2⟩ := he
    exact ⟨r, h1, hr r w' h2⟩
def nodelaw_SameEncode.RV (R : Bool → World → Prop) (v : Value) (w : World) : Prop := match v with
  | .bool r => R r w
  | _ => False
theorem nodelaw_SameEncode.RV_elim {R : Bool → World → Prop} {v : Value} {w : World} (h : nodelaw_SameEncode.RV R v w) : ∃ r, Ending.returned v = .returned (.bool r) ∧ R r w := by
  unfold nodelaw_SameEncode.RV at h
  split at h
  · exact ⟨_, rfl, h⟩
  · exact h.elim
/-- (*e2e/diskm.Disk).After -/
def diskm_Disk_After.Call (d : Option Addr) (k : Int) (w : World) (R : Option Addr → World → Prop) : Prop :=
  Calls Tryz.prog 56 #[.pointer d, .int .i64 k] w fun e w' => ∃ r, e = .returned (.pointer r) ∧ R r w'
theorem diskm_Disk_After.Call.mono {d k} {w : World} {R R' : Option Addr → World → Prop} (h : diskm_Disk_After.Call d k w R) (hr : ∀ r w', R r w' → R' r w') : diskm_Disk_After.Call d k w R' :=
  Calls.mono h fun e w' he => by
    obtain ⟨r, h1, h2⟩ := he
    exact ⟨r, h1, hr r w' h2⟩
def diskm_Disk_After.RV (R : Option Addr → World → Prop) (v : Value) (w : World) : Prop := match v with
  | .pointer r => R r w
  | _ => False
theorem diskm_Disk_After.RV_elim {R : Option Addr → World → Prop} {v : Value} {w : World} (h : diskm_Disk_After.RV R v w) : ∃ r, Ending.returned v = .returned (.pointer r) ∧ R r w := by
  unfold diskm_Disk_After.RV at h
  split at h
  · exact ⟨_, rfl, h⟩
  · exact h.elim
/-- (*e2e/sync.Sync).View -/
def sync_Sync_View.Call (s : Option Addr) (w : World) (R : Option Addr → World → Prop) : Prop :=
  Calls Tryz.prog 57 #[.pointer s] w fun e w' => ∃ r, e = .returned (.pointer r) ∧ R r w'
theorem sync_Sync_View.Call.mono {s} {w : World} {R R' : Option Addr → World → Prop} (h : sync_Sync_View.Call s w R) (hr : ∀ r w', R r w' → R' r w') : sync_Sync_View.Call s w R' :=
  Calls.mono h fun e w' he => by
    obtain ⟨r, h1, h2⟩ := he
    exact ⟨r, h1, hr r w' h2⟩
def sync_Sync_View.RV (R : Option Addr → World → Prop) (v : Value) (w : World) : Prop := match v with
  | .pointer r => R r w
  | _ => False
theorem sync_Sync_View.RV_elim {R : Option Addr → World → Prop} {v : Value} {w : World} (h : sync_Sync_View.RV R v w) : ∃ r, Ending.returned v = .returned (.pointer r) ∧ R r w := by
  unfold sync_Sync_View.RV at h
  split at h
  · exact ⟨_, rfl, h⟩
  · exact h.elim
/-- (*e2e/node.Node).catchUp -/
def node_Node_catchUp.Call (n : Option Addr) (w : World) (R : World → Prop) : Prop :=
  Calls Tryz.prog 58 #[.pointer n] w fun e w' => e = .returned (.tuple #[]) ∧ R w'
theorem node_Node_catchUp.Call.mono {n} {w : World} {R R' : World → Prop} (h : node_Node_catchUp.Call n w R) (hr : ∀ w', R w' → R'  w') : node_Node_catchUp.Call n w R' :=
  Calls.mono h fun e w' he => by
    obtain ⟨h1, h2⟩ := he
    exact ⟨h1, hr  w' h2⟩
def node_Node_catchUp.RV (R : World → Prop) (v : Value) (w : World) : Prop := match v with
  | .tuple ⟨[]⟩ => R w
  | _ => False
theorem node_Node_catchUp.RV_elim {R : World → Prop} {v : Value} {w : World} (h : node_Node_catchUp.RV R v w) : Ending.returned v = .returned (.tuple #[]) ∧ R w := by
  unfold node_Node_catchUp.RV at h
  split at h
  · exact ⟨rfl, h⟩
  · exact h.elim
/-- (*e2e/syncm.Sync).Steps -/
def syncm_Sync_Steps.Call (s : Option Addr) (w : World) (R : Int → World → Prop) : Prop :=
  Calls Tryz.prog 59 #[.pointer s] w fun e w' => ∃ r, e = .returned (.int .i64 r) ∧ R r w'
theorem syncm_Sync_Steps.Call.mono {s} {w : World} {R R' : Int → World → Prop} (h : syncm_Sync_Steps.Call s w R) (hr : ∀ r w', R r w' → R' r w') : syncm_Sync_Steps.Call s w R' :=
  Calls.mono h fun e w' he => by
    obtain ⟨r, h1, h2⟩ := he
    exact ⟨r, h1, hr r w' h2⟩
def syncm_Sync_Steps.RV (R : Int → World → Prop) (v : Value) (w : World) : Prop := match v with
  | .int .i64 r => R r w
  | _ => False
theorem syncm_Sync_Steps.RV_elim {R : Int → World → Prop} {v : Value} {w : World} (h : syncm_Sync_Steps.RV R v w) : ∃ r, Ending.returned v = .returned (.int .i64 r) ∧ R r w := by
  unfold syncm_Sync_Steps.RV at h
  split at h
  · exact ⟨_, rfl, h⟩
  · exact h.elim
/-- (*e2e/syncm.Sync).After -/
def syncm_Sync_After.Call (s : Option Addr) (k : Int) (w : World) (R : Option Addr → World → Prop) : Prop :=
  Calls Tryz.prog 60 #[.pointer s, .int .i64 k] w fun e w' => ∃ r, e = .returned (.pointer r) ∧ R r w'
theorem syncm_Sync_After.Call.mono {s k} {w : World} {R R' : Option Addr → World → Prop} (h : syncm_Sync_After.Call s k w R) (hr : ∀ r w', R r w' → R' r w') : syncm_Sync_After.Call s k w R' :=
  Calls.mono h fun e w' he => by
    obtain ⟨r, h1, h2⟩ := he
    exact ⟨r, h1, hr r w' h2⟩
def syncm_Sync_After.RV (R : Option Addr → World → Prop) (v : Value) (w : World) : Prop := match v with
  | .pointer r => R r w
  | _ => False
theorem syncm_Sync_After.RV_elim {R : Option Addr → World → Prop} {v : Value} {w : World} (h : syncm_Sync_After.RV R v w) : ∃ r, Ending.returned v = .returned (.pointer r) ∧ R r w := by
  unfold syncm_Sync_After.RV at h
  split at h
  · exact ⟨_, rfl, h⟩
  · exact h.elim
/-- e2e/nodelaw.AlikeLog -/
def nodelaw_AlikeLog.Call (x m0 : Option Addr) (w : World) (R : Bool → World → Prop) : Prop :=
  Calls Tryz.prog 61 #[.pointer x, .pointer m0] w fun e w' => ∃ r, e = .returned (.bool r) ∧ R r w'
theorem nodelaw_AlikeLog.Call.mono {x m0} {w : World} {R R' : Bool → World → Prop} (h : nodelaw_AlikeLog.Call x m0 w R) (hr : ∀ r w', R r w' → R' r w') : nodelaw_AlikeLog.Call x m0 w R' :=
  Calls.mono h fun e w' he => by
    obtain ⟨r, h1, h2⟩ := he
    exact ⟨r, h1, hr r w' h2⟩
def nodelaw_AlikeLog.RV (R : Bool → World → Prop) (v : Value) (w : World) : Prop := match v with
  | .bool r => R r w
  | _ => False
theorem nodelaw_AlikeLog.RV_elim {R : Bool → World → Prop} {v : Value} {w : World} (h : nodelaw_AlikeLog.RV R v w) : ∃ r, Ending.returned v = .returned (.bool r) ∧ R r w := by
  unfold nodelaw_AlikeLog.RV at h
  split at h
  · exact ⟨_, rfl, h⟩
  · exact h.elim
/-- e2e/nodelaw.AlikeKV -/
def nodelaw_AlikeKV.Call (x m0 : Option Addr) (key : ByteArray) (w : World) (R : Bool → World → Prop) : Prop :=
  Calls Tryz.prog 62 #[.pointer x, .pointer m0, .string key] w fun e w' => ∃ r, e = .returned (.bool r) ∧ R r w'
theorem nodelaw_AlikeKV.Call.mono {x m0 key} {w : World} {R R' : Bool → World → Prop} (h : nodelaw_AlikeKV.Call x m0 key w R) (hr : ∀ r w', R r w' → R' r w') : nodelaw_AlikeKV.Call x m0 key w R' :=
  Calls.mono h fun e w' he => by
    obtain ⟨r, h1, h2⟩ := he
    exact ⟨r, h1, hr r w' h2⟩
def nodelaw_AlikeKV.RV (R : Bool → World → Prop) (v : Value) (w : World) : Prop := match v with
  | .bool r => R r w
  | _ => False
theorem nodelaw_AlikeKV.RV_elim {R : Bool → World → Prop} {v : Value} {w : World} (h : nodelaw_AlikeKV.RV R v w) : ∃ r, Ending.returned v = .returned (.bool r) ∧ R r w := by
  unfold nodelaw_AlikeKV.RV at h
  split at h
  · exact ⟨_, rfl, h⟩
  · exact h.elim
/-- e2e/diskm.blocks -/
def diskm_blocks.Call (a_b : Option Addr) (a_l a_c : Nat) (w : World) (R : Option Addr → Nat → Nat → World → Prop) : Prop :=
  Calls Tryz.prog 63 #[.slice a_b a_l a_c] w fun e w' => ∃ r_b r_l r_c, e = .returned (.slice r_b r_l r_c) ∧ R r_b r_l r_c w'
theorem diskm_blocks.Call.mono {a_b a_l a_c} {w : World} {R R' : Option Addr → Nat → Nat → World → Prop} (h : diskm_blocks.Call a_b a_l a_c w R) (hr : ∀ r_b r_l r_c w', R r_b r_l r_c w' → R' r_b r_l r_c w') : diskm_blocks.Call a_b a_l a_c w R' :=
  Calls.mono h fun e w' he => by
    obtain ⟨r_b, r_l, r_c, h1, h2⟩ := he
    exact ⟨r_b, r_l, r_c, h1, hr r_b r_l r_c w' h2⟩
def diskm_blocks.RV (R : Option Addr → Nat → Nat → World → Prop) (v : Value) (w : World) : Prop := match v with
  | .slice r_b r_l r_c => R r_b r_l r_c w
  | _ => False
theorem diskm_blocks.RV_elim {R : Option Addr → Nat → Nat → World → Prop} {v : Value} {w : World} (h : diskm_blocks.RV R v w) : ∃ r_b r_l r_c, Ending.returned v = .returned (.slice r_b r_l r_c) ∧ R r_b r_l r_c w := by
  unfold diskm_blocks.RV at h
  split at h
  · exact ⟨_, _, _, rfl, h⟩
  · exact h.elim
/-- e2e/store.Open -/
def store_Open.Call (d : Option Addr) (w : World) (R : Option Addr → World → Prop) : Prop :=
  Calls Tryz.prog 64 #[.pointer d] w fun e w' => ∃ r, e = .returned (.pointer r) ∧ R r w'
theorem store_Open.Call.mono {d} {w : World} {R R' : Option Addr → World → Prop} (h : store_Open.Call d w R) (hr : ∀ r w', R r w' → R' r w') : store_Open.Call d w R' :=
  Calls.mono h fun e w' he => by
    obtain ⟨r, h1, h2⟩ := he
    exact ⟨r, h1, hr r w' h2⟩
def store_Open.RV (R : Option Addr → World → Prop) (v : Value) (w : World) : Prop := match v with
  | .pointer r => R r w
  | _ => False
theorem store_Open.RV_elim {R : Option Addr → World → Prop} {v : Value} {w : World} (h : store_Open.RV R v w) : ∃ r, Ending.returned v = .returned (.pointer r) ∧ R r w := by
  unfold store_Open.RV at h
  split at h
  · exact ⟨_, rfl, h⟩
  · exact h.elim
/-- e2e/rlog.Open -/
def rlog_Open.Call (st : Option Addr) (w : World) (R : Option Addr → World → Prop) : Prop :=
  Calls Tryz.prog 65 #[.pointer st] w fun e w' => ∃ r, e = .returned (.pointer r) ∧ R r w'
theorem rlog_Open.Call.mono {st} {w : World} {R R' : Option Addr → World → Prop} (h : rlog_Open.Call st w R) (hr : ∀ r w', R r w' → R' r w') : rlog_Open.Call st w R' :=
  Calls.mono h fun e w' he => by
    obtain ⟨r, h1, h2⟩ := he
    exact ⟨r, h1, hr r w' h2⟩
def rlog_Open.RV (R : Option Addr → World → Prop) (v : Value) (w : World) : Prop := match v with
  | .pointer r => R r w
  | _ => False
theorem rlog_Open.RV_elim {R : Option Addr → World → Prop} {v : Value} {w : World} (h : rlog_Open.RV R v w) : ∃ r, Ending.returned v = .returned (.pointer r) ∧ R r w := by
  unfold rlog_Open.RV at h
  split at h
  · exact ⟨_, rfl, h⟩
  · exact h.elim
/-- e2e/elect.New -/
def elect_New.Call (id0 : Int) (w : World) (R : Option Addr → World → Prop) : Prop :=
  Calls Tryz.prog 66 #[.int .i64 id0] w fun e w' => ∃ r, e = .returned (.pointer r) ∧ R r w'
theorem elect_New.Call.mono {id0} {w : World} {R R' : Option Addr → World → Prop} (h : elect_New.Call id0 w R) (hr : ∀ r w', R r w' → R' r w') : elect_New.Call id0 w R' :=
  Calls.mono h fun e w' he => by
    obtain ⟨r, h1, h2⟩ := he
    exact ⟨r, h1, hr r w' h2⟩
def elect_New.RV (R : Option Addr → World → Prop) (v : Value) (w : World) : Prop := match v with
  | .pointer r => R r w
  | _ => False
theorem elect_New.RV_elim {R : Option Addr → World → Prop} {v : Value} {w : World} (h : elect_New.RV R v w) : ∃ r, Ending.returned v = .returned (.pointer r) ∧ R r w := by
  unfold elect_New.RV at h
  split at h
  · exact ⟨_, rfl, h⟩
  · exact h.elim
/-- e2e/sync.Open -/
def sync_Open.Call (lg el : Option Addr) (w : World) (R : Option Addr → World → Prop) : Prop :=
  Calls Tryz.prog 67 #[.pointer lg, .pointer el] w fun e w' => ∃ r, e = .returned (.pointer r) ∧ R r w'
theorem sync_Open.Call.mono {lg el} {w : World} {R R' : Option Addr → World → Prop} (h : sync_Open.Call lg el w R) (hr : ∀ r w', R r w' → R' r w') : sync_Open.Call lg el w R' :=
  Calls.mono h fun e w' he => by
    obtain ⟨r, h1, h2⟩ := he
    exact ⟨r, h1, hr r w' h2⟩
def sync_Open.RV (R : Option Addr → World → Prop) (v : Value) (w : World) : Prop := match v with
  | .pointer r => R r w
  | _ => False
theorem sync_Open.RV_elim {R : Option Addr → World → Prop} {v : Value} {w : World} (h : sync_Open.RV R v w) : ∃ r, Ending.returned v = .returned (.pointer r) ∧ R r w := by
  unfold sync_Open.RV at h
  split at h
  · exact ⟨_, rfl, h⟩
  · exact h.elim
/-- e2e/rlogm.New -/
def rlogm_New.Call  (w : World) (R : Option Addr → World → Prop) : Prop :=
  Calls Tryz.prog 68 #[] w fun e w' => ∃ r, e = .returned (.pointer r) ∧ R r w'
theorem rlogm_New.Call.mono {w : World} {R R' : Option Addr → World → Prop} (h : rlogm_New.Call w R) (hr : ∀ r w', R r w' → R' r w') : rlogm_New.Call w R' :=
  Calls.mono h fun e w' he => by
    obtain ⟨r, h1, h2⟩ := he
    exact ⟨r, h1, hr r w' h2⟩
def rlogm_New.RV (R : Option Addr → World → Prop) (v : Value) (w : World) : Prop := match v with
  | .pointer r => R r w
  | _ => False
theorem rlogm_New.RV_elim {R : Option Addr → World → Prop} {v : Value} {w : World} (h : rlogm_New.RV R v w) : ∃ r, Ending.returned v = .returned (.pointer r) ∧ R r w := by
  unfold rlogm_New.RV at h
  split at h
  · exact ⟨_, rfl, h⟩
  · exact h.elim
/-- e2e/electm.New -/
def electm_New.Call (id0 : Int) (w : World) (R : Option Addr → World → Prop) : Prop :=
  Calls Tryz.prog 69 #[.int .i64 id0] w fun e w' => ∃ r, e = .returned (.pointer r) ∧ R r w'
theorem electm_New.Call.mono {id0} {w : World} {R R' : Option Addr → World → Prop} (h : electm_New.Call id0 w R) (hr : ∀ r w', R r w' → R' r w') : electm_New.Call id0 w R' :=
  Calls.mono h fun e w' he => by
    obtain ⟨r, h1, h2⟩ := he
    exact ⟨r, h1, hr r w' h2⟩
def electm_New.RV (R : Option Addr → World → Prop) (v : Value) (w : World) : Prop := match v with
  | .pointer r => R r w
  | _ => False
theorem electm_New.RV_elim {R : Option Addr → World → Prop} {v : Value} {w : World} (h : electm_New.RV R v w) : ∃ r, Ending.returned v = .returned (.pointer r) ∧ R r w := by
  unfold electm_New.RV at h
  split at h
  · exact ⟨_, rfl, h⟩
  · exact h.elim
/-- e2e/syncm.open -/
def syncm_open.Call (lg el : Option Addr) (w : World) (R : Option Addr → World → Prop) : Prop :=
  Calls Tryz.prog 70 #[.pointer lg, .pointer el] w fun e w' => ∃ r, e = .returned (.pointer r) ∧ R r w'
theorem syncm_open.Call.mono {lg el} {w : World} {R R' : Option Addr → World → Prop} (h : syncm_open.Call lg el w R) (hr : ∀ r w', R r w' → R' r w') : syncm_open.Call lg el w R' :=
  Calls.mono h fun e w' he => by
    obtain ⟨r, h1, h2⟩ := he
    exact ⟨r, h1, hr r w' h2⟩
def syncm_open.RV (R : Option Addr → World → Prop) (v : Value) (w : World) : Prop := match v with
  | .pointer r => R r w
  | _ => False
theorem syncm_open.RV_elim {R : Option Addr → World → Prop} {v : Value} {w : World} (h : syncm_open.RV R v w) : ∃ r, Ending.returned v = .returned (.pointer r) ∧ R r w := by
  unfold syncm_open.RV at h
  split at h
  · exact ⟨_, rfl, h⟩
  · exact h.elim
/-- (*e2e/nodem.Node).catchUp -/
def nodem_Node_catchUp.Call (n : Option Addr) (w : World) (R : World → Prop) : Prop :=
  Calls Tryz.prog 71 #[.pointer n] w fun e w' => e = .returned (.tuple #[]) ∧ R w'
theorem nodem_Node_catchUp.Call.mono {n} {w : World} {R R' : World → Prop} (h : nodem_Node_catchUp.Call n w R) (hr : ∀ w', R w' → R'  w') : nodem_Node_catchUp.Call n w R' :=
  Calls.mono h fun e w' he => by
    obtain ⟨h1, h2⟩ := he
    exact ⟨h1, hr  w' h2⟩
def nodem_Node_catchUp.RV (R : World → Prop) (v : Value) (w : World) : Prop := match v with
  | .tuple ⟨[]⟩ => R w
  | _ => False
theorem nodem_Node_catchUp.RV_elim {R : World → Prop} {v : Value} {w : World} (h : nodem_Node_catchUp.RV R v w) : Ending.returned v = .returned (.tuple #[]) ∧ R w := by
  unfold nodem_Node_catchUp.RV at h
  split at h
  · exact ⟨rfl, h⟩
  · exact h.elim
/-- (*e2e/rlogm.Log).Mark -/
def rlogm_Log_Mark.Call (l : Option Addr) (w : World) (R : World → Prop) : Prop :=
  Calls Tryz.prog 72 #[.pointer l] w fun e w' => e = .returned (.tuple #[]) ∧ R w'
theorem rlogm_Log_Mark.Call.mono {l} {w : World} {R R' : World → Prop} (h : rlogm_Log_Mark.Call l w R) (hr : ∀ w', R w' → R'  w') : rlogm_Log_Mark.Call l w R' :=
  Calls.mono h fun e w' he => by
    obtain ⟨h1, h2⟩ := he
    exact ⟨h1, hr  w' h2⟩
def rlogm_Log_Mark.RV (R : World → Prop) (v : Value) (w : World) : Prop := match v with
  | .tuple ⟨[]⟩ => R w
  | _ => False
theorem rlogm_Log_Mark.RV_elim {R : World → Prop} {v : Value} {w : World} (h : rlogm_Log_Mark.RV R v w) : Ending.returned v = .returned (.tuple #[]) ∧ R w := by
  unfold rlogm_Log_Mark.RV at h
  split at h
  · exact ⟨rfl, h⟩
  · exact h.elim
/-- (*e2e/sync.Sync).Tick -/
def sync_Sync_Tick.Call (s : Option Addr) (w : World) (R : Option Addr → Nat → Nat → World → Prop) : Prop :=
  Calls Tryz.prog 73 #[.pointer s] w fun e w' => ∃ r_b r_l r_c, e = .returned (.slice r_b r_l r_c) ∧ R r_b r_l r_c w'
theorem sync_Sync_Tick.Call.mono {s} {w : World} {R R' : Option Addr → Nat → Nat → World → Prop} (h : sync_Sync_Tick.Call s w R) (hr : ∀ r_b r_l r_c w', R r_b r_l r_c w' → R' r_b r_l r_c w') : sync_Sync_Tick.Call s w R' :=
  Calls.mono h fun e w' he => by
    obtain ⟨r_b, r_l, r_c, h1, h2⟩ := he
    exact ⟨r_b, r_l, r_c, h1, hr r_b r_l r_c w' h2⟩
def sync_Sync_Tick.RV (R : Option Addr → Nat → Nat → World → Prop) (v : Value) (w : World) : Prop := match v with
  | .slice r_b r_l r_c => R r_b r_l r_c w
  | _ => False
theorem sync_Sync_Tick.RV_elim {R : Option Addr → Nat → Nat → World → Prop} {v : Value} {w : World} (h : sync_Sync_Tick.RV R v w) : ∃ r_b r_l r_c, Ending.returned v = .returned (.slice r_b r_l r_c) ∧ R r_b r_l r_c w := by
  unfold sync_Sync_Tick.RV at h
  split at h
  · exact ⟨_, _, _, rfl, h⟩
  · exact h.elim
/-- (*e2e/node.Node).after -/
def node_Node_after.Call (n msgs_b : Option Addr) (msgs_l msgs_c : Nat) (w : World) (R : Int → Option Addr → Nat → Nat → Option Addr → Nat → Nat → World → Prop) : Prop :=
  Calls Tryz.prog 74 #[.pointer n, .slice msgs_b msgs_l msgs_c] w fun e w' => ∃ r_0 r_1_b r_1_l r_1_c r_2_b r_2_l r_2_c, e = .returned (.agg #[.int .i64 r_0, .slice r_1_b r_1_l r_1_c, .slice r_2_b r_2_l r_2_c]) ∧ R r_0 r_1_b r_1_l r_1_c r_2_b r_2_l r_2_c w'
theorem node_Node_after.Call.mono {n msgs_b msgs_l msgs_c} {w : World} {R R' : Int → Option Addr → Nat → Nat → Option Addr → Nat → Nat → World → Prop} (h : node_Node_after.Call n msgs_b msgs_l msgs_c w R) (hr : ∀ r_0 r_1_b r_1_l r_1_c r_2_b r_2_l r_2_c w', R r_0 r_1_b r_1_l r_1_c r_2_b r_2_l r_2_c w' → R' r_0 r_1_b r_1_l r_1_c r_2_b r_2_l r_2_c w') : node_Node_after.Call n msgs_b msgs_l msgs_c w R' :=
  Calls.mono h fun e w' he => by
    obtain ⟨r_0, r_1_b, r_1_l, r_1_c, r_2_b, r_2_l, r_2_c, h1, h2⟩ := he
    exact ⟨r_0, r_1_b, r_1_l, r_1_c, r_2_b, r_2_l, r_2_c, h1, hr r_0 r_1_b r_1_l r_1_c r_2_b r_2_l r_2_c w' h2⟩
def node_Node_after.RV (R : Int → Option Addr → Nat → Nat → Option Addr → Nat → Nat → World → Prop) (v : Value) (w : World) : Prop := match v with
  | .agg ⟨[.int .i64 r_0, .slice r_1_b r_1_l r_1_c, .slice r_2_b r_2_l r_2_c]⟩ => R r_0 r_1_b r_1_l r_1_c r_2_b r_2_l r_2_c w
  | _ => False
theorem node_Node_after.RV_elim {R : Int → Option Addr → Nat → Nat → Option Addr → Nat → Nat → World → Prop} {v : Value} {w : World} (h : node_Node_after.RV R v w) : ∃ r_0 r_1_b r_1_l r_1_c r_2_b r_2_l r_2_c, Ending.returned v = .returned (.agg #[.int .i64 r_0, .slice r_1_b r_1_l r_1_c, .slice r_2_b r_2_l r_2_c]) ∧ R r_0 r_1_b r_1_l r_1_c r_2_b r_2_l r_2_c w := by
  unfold node_Node_after.RV at h
  split at h
  · exact ⟨_, _, _, _, _, _, _, rfl, h⟩
  · exact h.elim
/-- e2e/node.decode -/
def node_decode.Call (raw : ByteArray) (w : World) (R : Int → Int → Int → Int → Int → Int → Int → Bool → Option Addr → Nat → Nat → ByteArray → Bool → World → Prop) : Prop :=
  Calls Tryz.prog 75 #[.string raw] w fun e w' => ∃ r0_0 r0_1 r0_2 r0_3 r0_4 r0_5 r0_6 r0_7 r0_8_b r0_8_l r0_8_c r0_9 r1, e = .returned (.tuple #[.agg #[.int .i64 r0_0, .int .i64 r0_1, .int .i64 r0_2, .int .i64 r0_3, .int .i64 r0_4, .int .i64 r0_5, .int .i64 r0_6, .bool r0_7, .slice r0_8_b r0_8_l r0_8_c, .string r0_9], .bool r1]) ∧ R r0_0 r0_1 r0_2 r0_3 r0_4 r0_5 r0_6 r0_7 r0_8_b r0_8_l r0_8_c r0_9 r1 w'
theorem node_decode.Call.mono {raw} {w : World} {R R' : Int → Int → Int → Int → Int → Int → Int → Bool → Option Addr → Nat → Nat → ByteArray → Bool → World → Prop} (h : node_decode.Call raw w R) (hr : ∀ r0_0 r0_1 r0_2 r0_3 r0_4 r0_5 r0_6 r0_7 r0_8_b r0_8_l r0_8_c r0_9 r1 w', R r0_0 r0_1 r0_2 r0_3 r0_4 r0_5 r0_6 r0_7 r0_8_b r0_8_l r0_8_c r0_9 r1 w' → R' r0_0 r0_1 r0_2 r0_3 r0_4 r0_5 r0_6 r0_7 r0_8_b r0_8_l r0_8_c r0_9 r1 w') : node_decode.Call raw w R' :=
  Calls.mono h fun e w' he => by
    obtain ⟨r0_0, r0_1, r0_2, r0_3, r0_4, r0_5, r0_6, r0_7, r0_8_b, r0_8_l, r0_8_c, r0_9, r1, h1, h2⟩ := he
    exact ⟨r0_0, r0_1, r0_2, r0_3, r0_4, r0_5, r0_6, r0_7, r0_8_b, r0_8_l, r0_8_c, r0_9, r1, h1, hr r0_0 r0_1 r0_2 r0_3 r0_4 r0_5 r0_6 r0_7 r0_8_b r0_8_l r0_8_c r0_9 r1 w' h2⟩
def node_decode.RV (R : Int → Int → Int → Int → Int → Int → Int → Bool → Option Addr → Nat → Nat → ByteArray → Bool → World → Prop) (v : Value) (w : World) : Prop := match v with
  | .tuple ⟨[.agg ⟨[.int .i64 r0_0, .int .i64 r0_1, .int .i64 r0_2, .int .i64 r0_3, .int .i64 r0_4, .int .i64 r0_5, .int .i64 r0_6, .bool r0_7, .slice r0_8_b r0_8_l r0_8_c, .string r0_9]⟩, .bool r1]⟩ => R r0_0 r0_1 r0_2 r0_3 r0_4 r0_5 r0_6 r0_7 r0_8_b r0_8_l r0_8_c r0_9 r1 w
  | _ => False
theorem node_decode.RV_elim {R : Int → Int → Int → Int → Int → Int → Int → Bool → Option Addr → Nat → Nat → ByteArray → Bool → World → Prop} {v : Value} {w : World} (h : node_decode.RV R v w) : ∃ r0_0 r0_1 r0_2 r0_3 r0_4 r0_5 r0_6 r0_7 r0_8_b r0_8_l r0_8_c r0_9 r1, Ending.returned v = .returned (.tuple #[.agg #[.int .i64 r0_0, .int .i64 r0_1, .int .i64 r0_2, .int .i64 r0_3, .int .i64 r0_4, .int .i64 r0_5, .int .i64 r0_6, .bool r0_7, .slice r0_8_b r0_8_l r0_8_c, .string r0_9], .bool r1]) ∧ R r0_0 r0_1 r0_2 r0_3 r0_4 r0_5 r0_6 r0_7 r0_8_b r0_8_l r0_8_c r0_9 r1 w := by
  unfold node_decode.RV at h
  split at h
  · exact ⟨_, _, _, _, _, _, _, _, _, _, _, _, _, rfl, h⟩
  · exact h.elim
/-- (*e2e/sync.Sync).Step -/
def sync_Sync_Step.Call (s : Option Addr) (m0_0 m0_1 m0_2 m0_3 m0_4 m0_5 m0_6 : Int) (m0_7 : Bool) (m0_8_b : Option Addr) (m0_8_l m0_8_c : Nat) (m0_9 : ByteArray) (w : World) (R : Option Addr → Nat → Nat → World → Prop) : Prop :=
  Calls Tryz.prog 76 #[.pointer s, .agg #[.int .i64 m0_0, .int .i64 m0_1, .int .i64 m0_2, .int .i64 m0_3, .int .i64 m0_4, .int .i64 m0_5, .int .i64 m0_6, .bool m0_7, .slice m0_8_b m0_8_l m0_8_c, .string m0_9]] w fun e w' => ∃ r_b r_l r_c, e = .returned (.slice r_b r_l r_c) ∧ R r_b r_l r_c w'
theorem sync_Sync_Step.Call.mono {s m0_0 m0_1 m0_2 m0_3 m0_4 m0_5 m0_6 m0_7 m0_8_b m0_8_l m0_8_c m0_9} {w : World} {R R' : Option Addr → Nat → Nat → World → Prop} (h : sync_Sync_Step.Call s m0_0 m0_1 m0_2 m0_3 m0_4 m0_5 m0_6 m0_7 m0_8_b m0_8_l m0_8_c m0_9 w R) (hr : ∀ r_b r_l r_c w', R r_b r_l r_c w' → R' r_b r_l r_c w') : sync_Sync_Step.Call s m0_0 m0_1 m0_2 m0_3 m0_4 m0_5 m0_6 m0_7 m0_8_b m0_8_l m0_8_c m0_9 w R' :=
  Calls.mono h fun e w' he => by
    obtain ⟨r_b, r_l, r_c, h1, h2⟩ := he
    exact ⟨r_b, r_l, r_c, h1, hr r_b r_l r_c w' h2⟩
def sync_Sync_Step.RV (R : Option Addr → Nat → Nat → World → Prop) (v : Value) (w : World) : Prop := match v with
  | .slice r_b r_l r_c => R r_b r_l r_c w
  | _ => False
theorem sync_Sync_Step.RV_elim {R : Option Addr → Nat → Nat → World → Prop} {v : Value} {w : World} (h : sync_Sync_Step.RV R v w) : ∃ r_b r_l r_c, Ending.returned v = .returned (.slice r_b r_l r_c) ∧ R r_b r_l r_c w := by
  unfold sync_Sync_Step.RV at h
  split at h
  · exact ⟨_, _, _, rfl, h⟩
  · exact h.elim
/-- e2e/nodelaw.SplitBar -/
def nodelaw_SplitBar.Call (t : ByteArray) (w : World) (R : ByteArray → ByteArray → World → Prop) : Prop :=
  Calls Tryz.prog 77 #[.string t] w fun e w' => ∃ r0 r1, e = .returned (.tuple #[.string r0, .string r1]) ∧ R r0 r1 w'
theorem nodelaw_SplitBar.Call.mono {t} {w : World} {R R' : ByteArray → ByteArray → World → Prop} (h : nodelaw_SplitBar.Call t w R) (hr : ∀ r0 r1 w', R r0 r1 w' → R' r0 r1 w') : nodelaw_SplitBar.Call t w R' :=
  Calls.mono h fun e w' he => by
    obtain ⟨r0, r1, h1, h2⟩ := he
    exact ⟨r0, r1, h1, hr r0 r1 w' h2⟩
def nodelaw_SplitBar.RV (R : ByteArray → ByteArray → World → Prop) (v : Value) (w : World) : Prop := match v with
  | .tuple ⟨[.string r0, .string r1]⟩ => R r0 r1 w
  | _ => False
theorem nodelaw_SplitBar.RV_elim {R : ByteArray → ByteArray → World → Prop} {v : Value} {w : World} (h : nodelaw_SplitBar.RV R v w) : ∃ r0 r1, Ending.returned v = .returned (.tuple #[.string r0, .string r1]) ∧ R r0 r1 w := by
  unfold nodelaw_SplitBar.RV at h
  split at h
  · exact ⟨_, _, rfl, h⟩
  · exact h.elim
/-- e2e/api.CmdOK -/
def api_CmdOK.Call (c_0 c_1 c_2 : Int) (c_3 c_4 c_5 : ByteArray) (w : World) (R : Bool → World → Prop) : Prop :=
  Calls Tryz.prog 78 #[.agg #[.int .i64 c_0, .int .i64 c_1, .int .i64 c_2, .string c_3, .string c_4, .string c_5]] w fun e w' => ∃ r, e = .returned (.bool r) ∧ R r w'
theorem api_CmdOK.Call.mono {c_0 c_1 c_2 c_3 c_4 c_5} {w : World} {R R' : Bool → World → Prop} (h : api_CmdOK.Call c_0 c_1 c_2 c_3 c_4 c_5 w R) (hr : ∀ r w', R r w' → R' r w') : api_CmdOK.Call c_0 c_1 c_2 c_3 c_4 c_5 w R' :=
  Calls.mono h fun e w' he => by
    obtain ⟨r, h1, h2⟩ := he
    exact ⟨r, h1, hr r w' h2⟩
def api_CmdOK.RV (R : Bool → World → Prop) (v : Value) (w : World) : Prop := match v with
  | .bool r => R r w
  | _ => False
theorem api_CmdOK.RV_elim {R : Bool → World → Prop} {v : Value} {w : World} (h : api_CmdOK.RV R v w) : ∃ r, Ending.returned v = .returned (.bool r) ∧ R r w := by
  unfold api_CmdOK.RV at h
  split at h
  · exact ⟨_, rfl, h⟩
  · exact h.elim
/-- e2e/api.EncodeCmd -/
def api_EncodeCmd.Call (c_0 c_1 c_2 : Int) (c_3 c_4 c_5 : ByteArray) (w : World) (R : ByteArray → World → Prop) : Prop :=
  Calls Tryz.prog 79 #[.agg #[.int .i64 c_0, .int .i64 c_1, .int .i64 c_2, .string c_3, .string c_4, .string c_5]] w fun e w' => ∃ r, e = .returned (.string r) ∧ R r w'
theorem api_EncodeCmd.Call.mono {c_0 c_1 c_2 c_3 c_4 c_5} {w : World} {R R' : ByteArray → World → Prop} (h : api_EncodeCmd.Call c_0 c_1 c_2 c_3 c_4 c_5 w R) (hr : ∀ r w', R r w' → R' r w') : api_EncodeCmd.Call c_0 c_1 c_2 c_3 c_4 c_5 w R' :=
  Calls.mono h fun e w' he => by
    obtain ⟨r, h1, h2⟩ := he
    exact ⟨r, h1, hr r w' h2⟩
def api_EncodeCmd.RV (R : ByteArray → World → Prop) (v : Value) (w : World) : Prop := match v with
  | .string r => R r w
  | _ => False
theorem api_EncodeCmd.RV_elim {R : ByteArray → World → Prop} {v : Value} {w : World} (h : api_EncodeCmd.RV R v w) : ∃ r, Ending.returned v = .returned (.string r) ∧ R r w := by
  unfold api_EncodeCmd.RV at h
  split at h
  · exact ⟨_, rfl, h⟩
  · exact h.elim
/-- (*e2e/sync.Sync).Propose -/
def sync_Sync_Propose.Call (s : Option Addr) (data : ByteArray) (w : World) (R : Int → Int → World → Prop) : Prop :=
  Calls Tryz.prog 80 #[.pointer s, .string data] w fun e w' => ∃ r0 r1, e = .returned (.tuple #[.int .i64 r0, .int .i64 r1]) ∧ R r0 r1 w'
theorem sync_Sync_Propose.Call.mono {s data} {w : World} {R R' : Int → Int → World → Prop} (h : sync_Sync_Propose.Call s data w R) (hr : ∀ r0 r1 w', R r0 r1 w' → R' r0 r1 w') : sync_Sync_Propose.Call s data w R' :=
  Calls.mono h fun e w' he => by
    obtain ⟨r0, r1, h1, h2⟩ := he
    exact ⟨r0, r1, h1, hr r0 r1 w' h2⟩
def sync_Sync_Propose.RV (R : Int → Int → World → Prop) (v : Value) (w : World) : Prop := match v with
  | .tuple ⟨[.int .i64 r0, .int .i64 r1]⟩ => R r0 r1 w
  | _ => False
theorem sync_Sync_Propose.RV_elim {R : Int → Int → World → Prop} {v : Value} {w : World} (h : sync_Sync_Propose.RV R v w) : ∃ r0 r1, Ending.returned v = .returned (.tuple #[.int .i64 r0, .int .i64 r1]) ∧ R r0 r1 w := by
  unfold sync_Sync_Propose.RV at h
  split at h
  · exact ⟨_, _, rfl, h⟩
  · exact h.elim
/-- (*e2e/syncm.Sync).Tick -/
def syncm_Sync_Tick.Call (s : Option Addr) (w : World) (R : Option Addr → Nat → Nat → World → Prop) : Prop :=
  Calls Tryz.prog 81 #[.pointer s] w fun e w' => ∃ r_b r_l r_c, e = .returned (.slice r_b r_l r_c) ∧ R r_b r_l r_c w'
theorem syncm_Sync_Tick.Call.mono {s} {w : World} {R R' : Option Addr → Nat → Nat → World → Prop} (h : syncm_Sync_Tick.Call s w R) (hr : ∀ r_b r_l r_c w', R r_b r_l r_c w' → R' r_b r_l r_c w') : syncm_Sync_Tick.Call s w R' :=
  Calls.mono h fun e w' he => by
    obtain ⟨r_b, r_l, r_c, h1, h2⟩ := he
    exact ⟨r_b, r_l, r_c, h1, hr r_b r_l r_c w' h2⟩
def syncm_Sync_Tick.RV (R : Option Addr → Nat → Nat → World → Prop) (v : Value) (w : World) : Prop := match v with
  | .slice r_b r_l r_c => R r_b r_l r_c w
  | _ => False
theorem syncm_Sync_Tick.RV_elim {R : Option Addr → Nat → Nat → World → Prop} {v : Value} {w : World} (h : syncm_Sync_Tick.RV R v w) : ∃ r_b r_l r_c, Ending.returned v = .returned (.slice r_b r_l r_c) ∧ R r_b r_l r_c w := by
  unfold syncm_Sync_Tick.RV at h
  split at h
  · exact ⟨_, _, _, rfl, h⟩
  · exact h.elim
/-- (*e2e/nodem.Node).after -/
def nodem_Node_after.Call (n msgs_b : Option Addr) (msgs_l msgs_c : Nat) (w : World) (R : Int → Option Addr → Nat → Nat → Option Addr → Nat → Nat → World → Prop) : Prop :=
  Calls Tryz.prog 82 #[.pointer n, .slice msgs_b msgs_l msgs_c] w fun e w' => ∃ r_0 r_1_b r_1_l r_1_c r_2_b r_2_l r_2_c, e = .returned (.agg #[.int .i64 r_0, .slice r_1_b r_1_l r_1_c, .slice r_2_b r_2_l r_2_c]) ∧ R r_0 r_1_b r_1_l r_1_c r_2_b r_2_l r_2_c w'
theorem nodem_Node_after.Call.mono {n msgs_b msgs_l msgs_c} {w : World} {R R' : Int → Option Addr → Nat → Nat → Option Addr → Nat → Nat → World → Prop} (h : nodem_Node_after.Call n msgs_b msgs_l msgs_c w R) (hr : ∀ r_0 r_1_b r_1_l r_1_c r_2_b r_2_l r_2_c w', R r_0 r_1_b r_1_l r_1_c r_2_b r_2_l r_2_c w' → R' r_0 r_1_b r_1_l r_1_c r_2_b r_2_l r_2_c w') : nodem_Node_after.Call n msgs_b msgs_l msgs_c w R' :=
  Calls.mono h fun e w' he => by
    obtain ⟨r_0, r_1_b, r_1_l, r_1_c, r_2_b, r_2_l, r_2_c, h1, h2⟩ := he
    exact ⟨r_0, r_1_b, r_1_l, r_1_c, r_2_b, r_2_l, r_2_c, h1, hr r_0 r_1_b r_1_l r_1_c r_2_b r_2_l r_2_c w' h2⟩
def nodem_Node_after.RV (R : Int → Option Addr → Nat → Nat → Option Addr → Nat → Nat → World → Prop) (v : Value) (w : World) : Prop := match v with
  | .agg ⟨[.int .i64 r_0, .slice r_1_b r_1_l r_1_c, .slice r_2_b r_2_l r_2_c]⟩ => R r_0 r_1_b r_1_l r_1_c r_2_b r_2_l r_2_c w
  | _ => False
theorem nodem_Node_after.RV_elim {R : Int → Option Addr → Nat → Nat → Option Addr → Nat → Nat → World → Prop} {v : Value} {w : World} (h : nodem_Node_after.RV R v w) : ∃ r_0 r_1_b r_1_l r_1_c r_2_b r_2_l r_2_c, Ending.returned v = .returned (.agg #[.int .i64 r_0, .slice r_1_b r_1_l r_1_c, .slice r_2_b r_2_l r_2_c]) ∧ R r_0 r_1_b r_1_l r_1_c r_2_b r_2_l r_2_c w := by
  unfold nodem_Node_after.RV at h
  split at h
  · exact ⟨_, _, _, _, _, _, _, rfl, h⟩
  · exact h.elim
/-- e2e/api.DecodeMsg -/
def api_DecodeMsg.Call (s : ByteArray) (w : World) (R : Int → Int → Int → Int → Int → Int → Int → Bool → Option Addr → Nat → Nat → ByteArray → Int → World → Prop) : Prop :=
  Calls Tryz.prog 83 #[.string s] w fun e w' => ∃ r0_0 r0_1 r0_2 r0_3 r0_4 r0_5 r0_6 r0_7 r0_8_b r0_8_l r0_8_c r0_9 r1, e = .returned (.tuple #[.agg #[.int .i64 r0_0, .int .i64 r0_1, .int .i64 r0_2, .int .i64 r0_3, .int .i64 r0_4, .int .i64 r0_5, .int .i64 r0_6, .bool r0_7, .slice r0_8_b r0_8_l r0_8_c, .string r0_9], .int .i64 r1]) ∧ R r0_0 r0_1 r0_2 r0_3 r0_4 r0_5 r0_6 r0_7 r0_8_b r0_8_l r0_8_c r0_9 r1 w'
theorem api_DecodeMsg.Call.mono {s} {w : World} {R R' : Int → Int → Int → Int → Int → Int → Int → Bool → Option Addr → Nat → Nat → ByteArray → Int → World → Prop} (h : api_DecodeMsg.Call s w R) (hr : ∀ r0_0 r0_1 r0_2 r0_3 r0_4 r0_5 r0_6 r0_7 r0_8_b r0_8_l r0_8_c r0_9 r1 w', R r0_0 r0_1 r0_2 r0_3 r0_4 r0_5 r0_6 r0_7 r0_8_b r0_8_l r0_8_c r0_9 r1 w' → R' r0_0 r0_1 r0_2 r0_3 r0_4 r0_5 r0_6 r0_7 r0_8_b r0_8_l r0_8_c r0_9 r1 w') : api_DecodeMsg.Call s w R' :=
  Calls.mono h fun e w' he => by
    obtain ⟨r0_0, r0_1, r0_2, r0_3, r0_4, r0_5, r0_6, r0_7, r0_8_b, r0_8_l, r0_8_c, r0_9, r1, h1, h2⟩ := he
    exact ⟨r0_0, r0_1, r0_2, r0_3, r0_4, r0_5, r0_6, r0_7, r0_8_b, r0_8_l, r0_8_c, r0_9, r1, h1, hr r0_0 r0_1 r0_2 r0_3 r0_4 r0_5 r0_6 r0_7 r0_8_b r0_8_l r0_8_c r0_9 r1 w' h2⟩
def api_DecodeMsg.RV (R : Int → Int → Int → Int → Int → Int → Int → Bool → Option Addr → Nat → Nat → ByteArray → Int → World → Prop) (v : Value) (w : World) : Prop := match v with
  | .tuple ⟨[.agg ⟨[.int .i64 r0_0, .int .i64 r0_1, .int .i64 r0_2, .int .i64 r0_3, .int .i64 r0_4, .int .i64 r0_5, .int .i64 r0_6, .bool r0_7, .slice r0_8_b r0_8_l r0_8_c, .string r0_9]⟩, .int .i64 r1]⟩ => R r0_0 r0_1 r0_2 r0_3 r0_4 r0_5 r0_6 r0_7 r0_8_b r0_8_l r0_8_c r0_9 r1 w
  | _ => False
theorem api_DecodeMsg.RV_elim {R : Int → Int → Int → Int → Int → Int → Int → Bool → Option Addr → Nat → Nat → ByteArray → Int → World → Prop} {v : Value} {w : World} (h : api_DecodeMsg.RV R v w) : ∃ r0_0 r0_1 r0_2 r0_3 r0_4 r0_5 r0_6 r0_7 r0_8_b r0_8_l r0_8_c r0_9 r1, Ending.returned v = .returned (.tuple #[.agg #[.int .i64 r0_0, .int .i64 r0_1, .int .i64 r0_2, .int .i64 r0_3, .int .i64 r0_4, .int .i64 r0_5, .int .i64 r0_6, .bool r0_7, .slice r0_8_b r0_8_l r0_8_c, .string r0_9], .int .i64 r1]) ∧ R r0_0 r0_1 r0_2 r0_3 r0_4 r0_5 r0_6 r0_7 r0_8_b r0_8_l r0_8_c r0_9 r1 w := by
  unfold api_DecodeMsg.RV at h
  split at h
  · exact ⟨_, _, _, _, _, _, _, _, _, _, _, _, _, rfl, h⟩
  · exact h.elim
/-- (*e2e/syncm.Sync).View -/
def syncm_Sync_View.Call (s : Option Addr) (w : World) (R : Option Addr → World → Prop) : Prop :=
  Calls Tryz.prog 84 #[.pointer s] w fun e w' => ∃ r, e = .returned (.pointer r) ∧ R r w'
theorem syncm_Sync_View.Call.mono {s} {w : World} {R R' : Option Addr → World → Prop} (h : syncm_Sync_View.Call s w R) (hr : ∀ r w', R r w' → R' r w') : syncm_Sync_View.Call s w R' :=
  Calls.mono h fun e w' he => by
    obtain ⟨r, h1, h2⟩ := he
    exact ⟨r, h1, hr r w' h2⟩
def syncm_Sync_View.RV (R : Option Addr → World → Prop) (v : Value) (w : World) : Prop := match v with
  | .pointer r => R r w
  | _ => False
theorem syncm_Sync_View.RV_elim {R : Option Addr → World → Prop} {v : Value} {w : World} (h : syncm_Sync_View.RV R v w) : ∃ r, Ending.returned v = .returned (.pointer r) ∧ R r w := by
  unfold syncm_Sync_View.RV at h
  split at h
  · exact ⟨_, rfl, h⟩
  · exact h.elim
/-- (*e2e/syncm.Sync).Step -/
def syncm_Sync_Step.Call (s : Option Addr) (m0_0 m0_1 m0_2 m0_3 m0_4 m0_5 m0_6 : Int) (m0_7 : Bool) (m0_8_b : Option Addr) (m0_8_l m0_8_c : Nat) (m0_9 : ByteArray) (w : World) (R : Option Addr → Nat → Nat → World → Prop) : Prop :=
  Calls Tryz.prog 85 #[.pointer s, .agg #[.int .i64 m0_0, .int .i64 m0_1, .int .i64 m0_2, .int .i64 m0_3, .int .i64 m0_4, .int .i64 m0_5, .int .i64 m0_6, .bool m0_7, .slice m0_8_b m0_8_l m0_8_c, .string m0_9]] w fun e w' => ∃ r_b r_l r_c, e = .returned (.slice r_b r_l r_c) ∧ R r_b r_l r_c w'
theorem syncm_Sync_Step.Call.mono {s m0_0 m0_1 m0_2 m0_3 m0_4 m0_5 m0_6 m0_7 m0_8_b m0_8_l m0_8_c m0_9} {w : World} {R R' : Option Addr → Nat → Nat → World → Prop} (h : syncm_Sync_Step.Call s m0_0 m0_1 m0_2 m0_3 m0_4 m0_5 m0_6 m0_7 m0_8_b m0_8_l m0_8_c m0_9 w R) (hr : ∀ r_b r_l r_c w', R r_b r_l r_c w' → R' r_b r_l r_c w') : syncm_Sync_Step.Call s m0_0 m0_1 m0_2 m0_3 m0_4 m0_5 m0_6 m0_7 m0_8_b m0_8_l m0_8_c m0_9 w R' :=
  Calls.mono h fun e w' he => by
    obtain ⟨r_b, r_l, r_c, h1, h2⟩ := he
    exact ⟨r_b, r_l, r_c, h1, hr r_b r_l r_c w' h2⟩
def syncm_Sync_Step.RV (R : Option Addr → Nat → Nat → World → Prop) (v : Value) (w : World) : Prop := match v with
  | .slice r_b r_l r_c => R r_b r_l r_c w
  | _ => False
theorem syncm_Sync_Step.RV_elim {R : Option Addr → Nat → Nat → World → Prop} {v : Value} {w : World} (h : syncm_Sync_Step.RV R v w) : ∃ r_b r_l r_c, Ending.returned v = .returned (.slice r_b r_l r_c) ∧ R r_b r_l r_c w := by
  unfold syncm_Sync_Step.RV at h
  split at h
  · exact ⟨_, _, _, rfl, h⟩
  · exact h.elim
/-- (*e2e/syncm.Sync).Propose -/
def syncm_Sync_Propose.Call (s : Option Addr) (data : ByteArray) (w : World) (R : Int → Int → World → Prop) : Prop :=
  Calls Tryz.prog 86 #[.pointer s, .string data] w fun e w' => ∃ r0 r1, e = .returned (.tuple #[.int .i64 r0, .int .i64 r1]) ∧ R r0 r1 w'
theorem syncm_Sync_Propose.Call.mono {s data} {w : World} {R R' : Int → Int → World → Prop} (h : syncm_Sync_Propose.Call s data w R) (hr : ∀ r0 r1 w', R r0 r1 w' → R' r0 r1 w') : syncm_Sync_Propose.Call s data w R' :=
  Calls.mono h fun e w' he => by
    obtain ⟨r0, r1, h1, h2⟩ := he
    exact ⟨r0, r1, h1, hr r0 r1 w' h2⟩
def syncm_Sync_Propose.RV (R : Int → Int → World → Prop) (v : Value) (w : World) : Prop := match v with
  | .tuple ⟨[.int .i64 r0, .int .i64 r1]⟩ => R r0 r1 w
  | _ => False
theorem syncm_Sync_Propose.RV_elim {R : Int → Int → World → Prop} {v : Value} {w : World} (h : syncm_Sync_Propose.RV R v w) : ∃ r0 r1, Ending.returned v = .returned (.tuple #[.int .i64 r0, .int .i64 r1]) ∧ R r0 r1 w := by
  unfold syncm_Sync_Propose.RV at h
  split at h
  · exact ⟨_, _, rfl, h⟩
  · exact h.elim
/-- (*e2e/node.Node).At -/
def node_Node_At.Call (n : Option Addr) (i : Int) (w : World) (R : Int → ByteArray → Int → World → Prop) : Prop :=
  Calls Tryz.prog 87 #[.pointer n, .int .i64 i] w fun e w' => ∃ r0_0 r0_1 r1, e = .returned (.tuple #[.agg #[.int .i64 r0_0, .string r0_1], .int .i64 r1]) ∧ R r0_0 r0_1 r1 w'
theorem node_Node_At.Call.mono {n i} {w : World} {R R' : Int → ByteArray → Int → World → Prop} (h : node_Node_At.Call n i w R) (hr : ∀ r0_0 r0_1 r1 w', R r0_0 r0_1 r1 w' → R' r0_0 r0_1 r1 w') : node_Node_At.Call n i w R' :=
  Calls.mono h fun e w' he => by
    obtain ⟨r0_0, r0_1, r1, h1, h2⟩ := he
    exact ⟨r0_0, r0_1, r1, h1, hr r0_0 r0_1 r1 w' h2⟩
def node_Node_At.RV (R : Int → ByteArray → Int → World → Prop) (v : Value) (w : World) : Prop := match v with
  | .tuple ⟨[.agg ⟨[.int .i64 r0_0, .string r0_1]⟩, .int .i64 r1]⟩ => R r0_0 r0_1 r1 w
  | _ => False
theorem node_Node_At.RV_elim {R : Int → ByteArray → Int → World → Prop} {v : Value} {w : World} (h : node_Node_At.RV R v w) : ∃ r0_0 r0_1 r1, Ending.returned v = .returned (.tuple #[.agg #[.int .i64 r0_0, .string r0_1], .int .i64 r1]) ∧ R r0_0 r0_1 r1 w := by
  unfold node_Node_At.RV at h
  split at h
  · exact ⟨_, _, _, rfl, h⟩
  · exact h.elim
/-- (*e2e/nodem.Node).At -/
def nodem_Node_At.Call (n : Option Addr) (i : Int) (w : World) (R : Int → ByteArray → Int → World → Prop) : Prop :=
  Calls Tryz.prog 88 #[.pointer n, .int .i64 i] w fun e w' => ∃ r0_0 r0_1 r1, e = .returned (.tuple #[.agg #[.int .i64 r0_0, .string r0_1], .int .i64 r1]) ∧ R r0_0 r0_1 r1 w'
theorem nodem_Node_At.Call.mono {n i} {w : World} {R R' : Int → ByteArray → Int → World → Prop} (h : nodem_Node_At.Call n i w R) (hr : ∀ r0_0 r0_1 r1 w', R r0_0 r0_1 r1 w' → R' r0_0 r0_1 r1 w') : nodem_Node_At.Call n i w R' :=
  Calls.mono h fun e w' he => by
    obtain ⟨r0_0, r0_1, r1, h1, h2⟩ := he
    exact ⟨r0_0, r0_1, r1, h1, hr r0_0 r0_1 r1 w' h2⟩
def nodem_Node_At.RV (R : Int → ByteArray → Int → World → Prop) (v : Value) (w : World) : Prop := match v with
  | .tuple ⟨[.agg ⟨[.int .i64 r0_0, .string r0_1]⟩, .int .i64 r1]⟩ => R r0_0 r0_1 r1 w
  | _ => False
theorem nodem_Node_At.RV_elim {R : Int → ByteArray → Int → World → Prop} {v : Value} {w : World} (h : nodem_Node_At.RV R v w) : ∃ r0_0 r0_1 r1, Ending.returned v = .returned (.tuple #[.agg #[.int .i64 r0_0, .string r0_1], .int .i64 r1]) ∧ R r0_0 r0_1 r1 w := by
  unfold nodem_Node_At.RV at h
  split at h
  · exact ⟨_, _, _, rfl, h⟩
  · exact h.elim
/-- (*e2e/node.Node).TermAt -/
def node_Node_TermAt.Call (n : Option Addr) (i : Int) (w : World) (R : Int → Int → World → Prop) : Prop :=
  Calls Tryz.prog 89 #[.pointer n, .int .i64 i] w fun e w' => ∃ r0 r1, e = .returned (.tuple #[.int .i64 r0, .int .i64 r1]) ∧ R r0 r1 w'
theorem node_Node_TermAt.Call.mono {n i} {w : World} {R R' : Int → Int → World → Prop} (h : node_Node_TermAt.Call n i w R) (hr : ∀ r0 r1 w', R r0 r1 w' → R' r0 r1 w') : node_Node_TermAt.Call n i w R' :=
  Calls.mono h fun e w' he => by
    obtain ⟨r0, r1, h1, h2⟩ := he
    exact ⟨r0, r1, h1, hr r0 r1 w' h2⟩
def node_Node_TermAt.RV (R : Int → Int → World → Prop) (v : Value) (w : World) : Prop := match v with
  | .tuple ⟨[.int .i64 r0, .int .i64 r1]⟩ => R r0 r1 w
  | _ => False
theorem node_Node_TermAt.RV_elim {R : Int → Int → World → Prop} {v : Value} {w : World} (h : node_Node_TermAt.RV R v w) : ∃ r0 r1, Ending.returned v = .returned (.tuple #[.int .i64 r0, .int .i64 r1]) ∧ R r0 r1 w := by
  unfold node_Node_TermAt.RV at h
  split at h
  · exact ⟨_, _, rfl, h⟩
  · exact h.elim
/-- (*e2e/nodem.Node).TermAt -/
def nodem_Node_TermAt.Call (n : Option Addr) (i : Int) (w : World) (R : Int → Int → World → Prop) : Prop :=
  Calls Tryz.prog 90 #[.pointer n, .int .i64 i] w fun e w' => ∃ r0 r1, e = .returned (.tuple #[.int .i64 r0, .int .i64 r1]) ∧ R r0 r1 w'
theorem nodem_Node_TermAt.Call.mono {n i} {w : World} {R R' : Int → Int → World → Prop} (h : nodem_Node_TermAt.Call n i w R) (hr : ∀ r0 r1 w', R r0 r1 w' → R' r0 r1 w') : nodem_Node_TermAt.Call n i w R' :=
  Calls.mono h fun e w' he => by
    obtain ⟨r0, r1, h1, h2⟩ := he
    exact ⟨r0, r1, h1, hr r0 r1 w' h2⟩
def nodem_Node_TermAt.RV (R : Int → Int → World → Prop) (v : Value) (w : World) : Prop := match v with
  | .tuple ⟨[.int .i64 r0, .int .i64 r1]⟩ => R r0 r1 w
  | _ => False
theorem nodem_Node_TermAt.RV_elim {R : Int → Int → World → Prop} {v : Value} {w : World} (h : nodem_Node_TermAt.RV R v w) : ∃ r0 r1, Ending.returned v = .returned (.tuple #[.int .i64 r0, .int .i64 r1]) ∧ R r0 r1 w := by
  unfold nodem_Node_TermAt.RV at h
  split at h
  · exact ⟨_, _, rfl, h⟩
  · exact h.elim
/-- (*e2e/node.Node).Val -/
def node_Node_Val.Call (n : Option Addr) (key : ByteArray) (w : World) (R : ByteArray → Bool → World → Prop) : Prop :=
  Calls Tryz.prog 91 #[.pointer n, .string key] w fun e w' => ∃ r0 r1, e = .returned (.tuple #[.string r0, .bool r1]) ∧ R r0 r1 w'
theorem node_Node_Val.Call.mono {n key} {w : World} {R R' : ByteArray → Bool → World → Prop} (h : node_Node_Val.Call n key w R) (hr : ∀ r0 r1 w', R r0 r1 w' → R' r0 r1 w') : node_Node_Val.Call n key w R' :=
  Calls.mono h fun e w' he => by
    obtain ⟨r0, r1, h1, h2⟩ := he
    exact ⟨r0, r1, h1, hr r0 r1 w' h2⟩
def node_Node_Val.RV (R : ByteArray → Bool → World → Prop) (v : Value) (w : World) : Prop := match v with
  | .tuple ⟨[.string r0, .bool r1]⟩ => R r0 r1 w
  | _ => False
theorem node_Node_Val.RV_elim {R : ByteArray → Bool → World → Prop} {v : Value} {w : World} (h : node_Node_Val.RV R v w) : ∃ r0 r1, Ending.returned v = .returned (.tuple #[.string r0, .bool r1]) ∧ R r0 r1 w := by
  unfold node_Node_Val.RV at h
  split at h
  · exact ⟨_, _, rfl, h⟩
  · exact h.elim
/-- (*e2e/nodem.Node).Val -/
def nodem_Node_Val.Call (n : Option Addr) (key : ByteArray) (w : World) (R : ByteArray → Bool → World → Prop) : Prop :=
  Calls Tryz.prog 92 #[.pointer n, .string key] w fun e w' => ∃ r0 r1, e = .returned (.tuple #[.string r0, .bool r1]) ∧ R r0 r1 w'
theorem nodem_Node_Val.Call.mono {n key} {w : World} {R R' : ByteArray → Bool → World → Prop} (h : nodem_Node_Val.Call n key w R) (hr : ∀ r0 r1 w', R r0 r1 w' → R' r0 r1 w') : nodem_Node_Val.Call n key w R' :=
  Calls.mono h fun e w' he => by
    obtain ⟨r0, r1, h1, h2⟩ := he
    exact ⟨r0, r1, h1, hr r0 r1 w' h2⟩
def nodem_Node_Val.RV (R : ByteArray → Bool → World → Prop) (v : Value) (w : World) : Prop := match v with
  | .tuple ⟨[.string r0, .bool r1]⟩ => R r0 r1 w
  | _ => False
theorem nodem_Node_Val.RV_elim {R : ByteArray → Bool → World → Prop} {v : Value} {w : World} (h : nodem_Node_Val.RV R v w) : ∃ r0 r1, Ending.returned v = .returned (.tuple #[.string r0, .bool r1]) ∧ R r0 r1 w := by
  unfold nodem_Node_Val.RV at h
  split at h
  · exact ⟨_, _, rfl, h⟩
  · exact h.elim
/-- (*e2e/node.Node).View -/
def node_Node_View.Call (n : Option Addr) (w : World) (R : Option Addr → World → Prop) : Prop :=
  Calls Tryz.prog 93 #[.pointer n] w fun e w' => ∃ r, e = .returned (.pointer r) ∧ R r w'
theorem node_Node_View.Call.mono {n} {w : World} {R R' : Option Addr → World → Prop} (h : node_Node_View.Call n w R) (hr : ∀ r w', R r w' → R' r w') : node_Node_View.Call n w R' :=
  Calls.mono h fun e w' he => by
    obtain ⟨r, h1, h2⟩ := he
    exact ⟨r, h1, hr r w' h2⟩
def node_Node_View.RV (R : Option Addr → World → Prop) (v : Value) (w : World) : Prop := match v with
  | .pointer r => R r w
  | _ => False
theorem node_Node_View.RV_elim {R : Option Addr → World → Prop} {v : Value} {w : World} (h : node_Node_View.RV R v w) : ∃ r, Ending.returned v = .returned (.pointer r) ∧ R r w := by
  unfold node_Node_View.RV at h
  split at h
  · exact ⟨_, rfl, h⟩
  · exact h.elim
/-- (*e2e/nodem.Node).View -/
def nodem_Node_View.Call (n : Option Addr) (w : World) (R : Option Addr → World → Prop) : Prop :=
  Calls Tryz.prog 94 #[.pointer n] w fun e w' => ∃ r, e = .returned (.pointer r) ∧ R r w'
theorem nodem_Node_View.Call.mono {n} {w : World} {R R' : Option Addr → World → Prop} (h : nodem_Node_View.Call n w R) (hr : ∀ r w', R r w' → R' r w') : nodem_Node_View.Call n w R' :=
  Calls.mono h fun e w' he => by
    obtain ⟨r, h1, h2⟩ := he
    exact ⟨r, h1, hr r w' h2⟩
def nodem_Node_View.RV (R : Option Addr → World → Prop) (v : Value) (w : World) : Prop := match v with
  | .pointer r => R r w
  | _ => False
theorem nodem_Node_View.RV_elim {R : Option Addr → World → Prop} {v : Value} {w : World} (h : nodem_Node_View.RV R v w) : ∃ r, Ending.returned v = .returned (.pointer r) ∧ R r w := by
  unfold nodem_Node_View.RV at h
  split at h
  · exact ⟨_, rfl, h⟩
  · exact h.elim
/-- e2e/nodelaw.SameSync -/
def nodelaw_SameSync.Call (a b : Option Addr) (w : World) (R : Bool → World → Prop) : Prop :=
  Calls Tryz.prog 95 #[.pointer a, .pointer b] w fun e w' => ∃ r, e = .returned (.bool r) ∧ R r w'
theorem nodelaw_SameSync.Call.mono {a b} {w : World} {R R' : Bool → World → Prop} (h : nodelaw_SameSync.Call a b w R) (hr : ∀ r w', R r w' → R' r w') : nodelaw_SameSync.Call a b w R' :=
  Calls.mono h fun e w' he => by
    obtain ⟨r, h1, h2⟩ := he
    exact ⟨r, h1, hr r w' h2⟩
def nodelaw_SameSync.RV (R : Bool → World → Prop) (v : Value) (w : World) : Prop := match v with
  | .bool r => R r w
  | _ => False
theorem nodelaw_SameSync.RV_elim {R : Bool → World → Prop} {v : Value} {w : World} (h : nodelaw_SameSync.RV R v w) : ∃ r, Ending.returned v = .returned (.bool r) ∧ R r w := by
  unfold nodelaw_SameSync.RV at h
  split at h
  · exact ⟨_, rfl, h⟩
  · exact h.elim
/-- (*e2e/node.Node).Len -/
def node_Node_Len.Call (n : Option Addr) (w : World) (R : Int → World → Prop) : Prop :=
  Calls Tryz.prog 96 #[.pointer n] w fun e w' => ∃ r, e = .returned (.int .i64 r) ∧ R r w'
theorem node_Node_Len.Call.mono {n} {w : World} {R R' : Int → World → Prop} (h : node_Node_Len.Call n w R) (hr : ∀ r w', R r w' → R' r w') : node_Node_Len.Call n w R' :=
  Calls.mono h fun e w' he => by
    obtain ⟨r, h1, h2⟩ := he
    exact ⟨r, h1, hr r w' h2⟩
def node_Node_Len.RV (R : Int → World → Prop) (v : Value) (w : World) : Prop := match v with
  | .int .i64 r => R r w
  | _ => False
theorem node_Node_Len.RV_elim {R : Int → World → Prop} {v : Value} {w : World} (h : node_Node_Len.RV R v w) : ∃ r, Ending.returned v = .returned (.int .i64 r) ∧ R r w := by
  unfold node_Node_Len.RV at h
  split at h
  · exact ⟨_, rfl, h⟩
  · exact h.elim
/-- (*e2e/nodem.Node).Len -/
def nodem_Node_Len.Call (n : Option Addr) (w : World) (R : Int → World → Prop) : Prop :=
  Calls Tryz.prog 97 #[.pointer n] w fun e w' => ∃ r, e = .returned (.int .i64 r) ∧ R r w'
theorem nodem_Node_Len.Call.mono {n} {w : World} {R R' : Int → World → Prop} (h : nodem_Node_Len.Call n w R) (hr : ∀ r w', R r w' → R' r w') : nodem_Node_Len.Call n w R' :=
  Calls.mono h fun e w' he => by
    obtain ⟨r, h1, h2⟩ := he
    exact ⟨r, h1, hr r w' h2⟩
def nodem_Node_Len.RV (R : Int → World → Prop) (v : Value) (w : World) : Prop := match v with
  | .int .i64 r => R r w
  | _ => False
theorem nodem_Node_Len.RV_elim {R : Int → World → Prop} {v : Value} {w : World} (h : nodem_Node_Len.RV R v w) : ∃ r, Ending.returned v = .returned (.int .i64 r) ∧ R r w := by
  unfold nodem_Node_Len.RV at h
  split at h
  · exact ⟨_, rfl, h⟩
  · exact h.elim
/-- (*e2e/node.Node).KeyAt -/
def node_Node_KeyAt.Call (n : Option Addr) (i : Int) (w : World) (R : ByteArray → World → Prop) : Prop :=
  Calls Tryz.prog 98 #[.pointer n, .int .i64 i] w fun e w' => ∃ r, e = .returned (.string r) ∧ R r w'
theorem node_Node_KeyAt.Call.mono {n i} {w : World} {R R' : ByteArray → World → Prop} (h : node_Node_KeyAt.Call n i w R) (hr : ∀ r w', R r w' → R' r w') : node_Node_KeyAt.Call n i w R' :=
  Calls.mono h fun e w' he => by
    obtain ⟨r, h1, h2⟩ := he
    exact ⟨r, h1, hr r w' h2⟩
def node_Node_KeyAt.RV (R : ByteArray → World → Prop) (v : Value) (w : World) : Prop := match v with
  | .string r => R r w
  | _ => False
theorem node_Node_KeyAt.RV_elim {R : ByteArray → World → Prop} {v : Value} {w : World} (h : node_Node_KeyAt.RV R v w) : ∃ r, Ending.returned v = .returned (.string r) ∧ R r w := by
  unfold node_Node_KeyAt.RV at h
  split at h
  · exact ⟨_, rfl, h⟩
  · exact h.elim
/-- (*e2e/nodem.Node).KeyAt -/
def nodem_Node_KeyAt.Call (n : Option Addr) (i : Int) (w : World) (R : ByteArray → World → Prop) : Prop :=
  Calls Tryz.prog 99 #[.pointer n, .int .i64 i] w fun e w' => ∃ r, e = .returned (.string r) ∧ R r w'
theorem nodem_Node_KeyAt.Call.mono {n i} {w : World} {R R' : ByteArray → World → Prop} (h : nodem_Node_KeyAt.Call n i w R) (hr : ∀ r w', R r w' → R' r w') : nodem_Node_KeyAt.Call n i w R' :=
  Calls.mono h fun e w' he => by
    obtain ⟨r, h1, h2⟩ := he
    exact ⟨r, h1, hr r w' h2⟩
def nodem_Node_KeyAt.RV (R : ByteArray → World → Prop) (v : Value) (w : World) : Prop := match v with
  | .string r => R r w
  | _ => False
theorem nodem_Node_KeyAt.RV_elim {R : ByteArray → World → Prop} {v : Value} {w : World} (h : nodem_Node_KeyAt.RV R v w) : ∃ r, Ending.returned v = .returned (.string r) ∧ R r w := by
  unfold nodem_Node_KeyAt.RV at h
  split at h
  · exact ⟨_, rfl, h⟩
  · exact h.elim
/-- (*e2e/node.Node).Sess -/
def node_Node_Sess.Call (n : Option Addr) (client : Int) (w : World) (R : Int → Int → ByteArray → World → Prop) : Prop :=
  Calls Tryz.prog 100 #[.pointer n, .int .i64 client] w fun e w' => ∃ r0 r1_0 r1_1, e = .returned (.tuple #[.int .i64 r0, .agg #[.int .i64 r1_0, .string r1_1]]) ∧ R r0 r1_0 r1_1 w'
theorem node_Node_Sess.Call.mono {n client} {w : World} {R R' : Int → Int → ByteArray → World → Prop} (h : node_Node_Sess.Call n client w R) (hr : ∀ r0 r1_0 r1_1 w', R r0 r1_0 r1_1 w' → R' r0 r1_0 r1_1 w') : node_Node_Sess.Call n client w R' :=
  Calls.mono h fun e w' he => by
    obtain ⟨r0, r1_0, r1_1, h1, h2⟩ := he
    exact ⟨r0, r1_0, r1_1, h1, hr r0 r1_0 r1_1 w' h2⟩
def node_Node_Sess.RV (R : Int → Int → ByteArray → World → Prop) (v : Value) (w : World) : Prop := match v with
  | .tuple ⟨[.int .i64 r0, .agg ⟨[.int .i64 r1_0, .string r1_1]⟩]⟩ => R r0 r1_0 r1_1 w
  | _ => False
theorem node_Node_Sess.RV_elim {R : Int → Int → ByteArray → World → Prop} {v : Value} {w : World} (h : node_Node_Sess.RV R v w) : ∃ r0 r1_0 r1_1, Ending.returned v = .returned (.tuple #[.int .i64 r0, .agg #[.int .i64 r1_0, .string r1_1]]) ∧ R r0 r1_0 r1_1 w := by
  unfold node_Node_Sess.RV at h
  split at h
  · exact ⟨_, _, _, rfl, h⟩
  · exact h.elim
/-- (*e2e/nodem.Node).Sess -/
def nodem_Node_Sess.Call (n : Option Addr) (c : Int) (w : World) (R : Int → Int → ByteArray → World → Prop) : Prop :=
  Calls Tryz.prog 101 #[.pointer n, .int .i64 c] w fun e w' => ∃ r0 r1_0 r1_1, e = .returned (.tuple #[.int .i64 r0, .agg #[.int .i64 r1_0, .string r1_1]]) ∧ R r0 r1_0 r1_1 w'
theorem nodem_Node_Sess.Call.mono {n c} {w : World} {R R' : Int → Int → ByteArray → World → Prop} (h : nodem_Node_Sess.Call n c w R) (hr : ∀ r0 r1_0 r1_1 w', R r0 r1_0 r1_1 w' → R' r0 r1_0 r1_1 w') : nodem_Node_Sess.Call n c w R' :=
  Calls.mono h fun e w' he => by
    obtain ⟨r0, r1_0, r1_1, h1, h2⟩ := he
    exact ⟨r0, r1_0, r1_1, h1, hr r0 r1_0 r1_1 w' h2⟩
def nodem_Node_Sess.RV (R : Int → Int → ByteArray → World → Prop) (v : Value) (w : World) : Prop := match v with
  | .tuple ⟨[.int .i64 r0, .agg ⟨[.int .i64 r1_0, .string r1_1]⟩]⟩ => R r0 r1_0 r1_1 w
  | _ => False
theorem nodem_Node_Sess.RV_elim {R : Int → Int → ByteArray → World → Prop} {v : Value} {w : World} (h : nodem_Node_Sess.RV R v w) : ∃ r0 r1_0 r1_1, Ending.returned v = .returned (.tuple #[.int .i64 r0, .agg #[.int .i64 r1_0, .string r1_1]]) ∧ R r0 r1_0 r1_1 w := by
  unfold nodem_Node_Sess.RV at h
  split at h
  · exact ⟨_, _, _, rfl, h⟩
  · exact h.elim
/-- e2e/node.Encode -/
def node_Encode.Call (m0_0 m0_1 m0_2 m0_3 m0_4 m0_5 m0_6 : Int) (m0_7 : Bool) (m0_8_b : Option Addr) (m0_8_l m0_8_c : Nat) (m0_9 : ByteArray) (w : World) (R : ByteArray → World → Prop) : Prop :=
  Calls Tryz.prog 102 #[.agg #[.int .i64 m0_0, .int .i64 m0_1, .int .i64 m0_2, .int .i64 m0_3, .int .i64 m0_4, .int .i64 m0_5, .int .i64 m0_6, .bool m0_7, .slice m0_8_b m0_8_l m0_8_c, .string m0_9]] w fun e w' => ∃ r, e = .returned (.string r) ∧ R r w'
theorem node_Encode.Call.mono {m0_0 m0_1 m0_2 m0_3 m0_4 m0_5 m0_6 m0_7 m0_8_b m0_8_l m0_8_c m0_9} {w : World} {R R' : ByteArray → World → Prop} (h : node_Encode.Call m0_0 m0_1 m0_2 m0_3 m0_4 m0_5 m0_6 m0_7 m0_8_b m0_8_l m0_8_c m0_9 w R) (hr : ∀ r w', R r w' → R' r w') : node_Encode.Call m0_0 m0_1 m0_2 m0_3 m0_4 m0_5 m0_6 m0_7 m0_8_b m0_8_l m0_8_c m0_9 w R' :=
  Calls.mono h fun e w' he => by
    obtain ⟨r, h1, h2⟩ := he
    exact ⟨r, h1, hr r w' h2⟩
def node_Encode.RV (R : ByteArray → World → Prop) (v : Value) (w : World) : Prop := match v with
  | .string r => R r w
  | _ => False
theorem node_Encode.RV_elim {R : ByteArray → World → Prop} {v : Value} {w : World} (h : node_Encode.RV R v w) : ∃ r, Ending.returned v = .returned (.string r) ∧ R r w := by
  unfold node_Encode.RV at h
  split at h
  · exact ⟨_, rfl, h⟩
  · exact h.elim
/-- e2e/api.EncodeMsg -/
def api_EncodeMsg.Call (m0_0 m0_1 m0_2 m0_3 m0_4 m0_5 m0_6 : Int) (m0_7 : Bool) (m0_8_b : Option Addr) (m0_8_l m0_8_c : Nat) (m0_9 : ByteArray) (w : World) (R : ByteArray → World → Prop) : Prop :=
  Calls Tryz.prog 103 #[.agg #[.int .i64 m0_0, .int .i64 m0_1, .int .i64 m0_2, .int .i64 m0_3, .int .i64 m0_4, .int .i64 m0_5, .int .i64 m0_6, .bool m0_7, .slice m0_8_b m0_8_l m0_8_c, .string m0_9]] w fun e w' => ∃ r, e = .returned (.string r) ∧ R r w'
theorem api_EncodeMsg.Call.mono {m0_0 m0_1 m0_2 m0_3 m0_4 m0_5 m0_6 m0_7 m0_8_b m0_8_l m0_8_c m0_9} {w : World} {R R' : ByteArray → World → Prop} (h : api_EncodeMsg.Call m0_0 m0_1 m0_2 m0_3 m0_4 m0_5 m0_6 m0_7 m0_8_b m0_8_l m0_8_c m0_9 w R) (hr : ∀ r w', R r w' → R' r w') : api_EncodeMsg.Call m0_0 m0_1 m0_2 m0_3 m0_4 m0_5 m0_6 m0_7 m0_8_b m0_8_l m0_8_c m0_9 w R' :=
  Calls.mono h fun e w' he => by
    obtain ⟨r, h1, h2⟩ := he
    exact ⟨r, h1, hr r w' h2⟩
def api_EncodeMsg.RV (R : ByteArray → World → Prop) (v : Value) (w : World) : Prop := match v with
  | .string r => R r w
  | _ => False
theorem api_EncodeMsg.RV_elim {R : ByteArray → World → Prop} {v : Value} {w : World} (h : api_EncodeMsg.RV R v w) : ∃ r, Ending.returned v = .returned (.string r) ∧ R r w := by
  unfold api_EncodeMsg.RV at h
  split at h
  · exact ⟨_, rfl, h⟩
  · exact h.elim
/-- (*e2e/elect.Elect).Id -/
def elect_Elect_Id.Call (e_1 : Option Addr) (w : World) (R : Int → World → Prop) : Prop :=
  Calls Tryz.prog 104 #[.pointer e_1] w fun e w' => ∃ r, e = .returned (.int .i64 r) ∧ R r w'
theorem elect_Elect_Id.Call.mono {e_1} {w : World} {R R' : Int → World → Prop} (h : elect_Elect_Id.Call e_1 w R) (hr : ∀ r w', R r w' → R' r w') : elect_Elect_Id.Call e_1 w R' :=
  Calls.mono h fun e w' he => by
    obtain ⟨r, h1, h2⟩ := he
    exact ⟨r, h1, hr r w' h2⟩
def elect_Elect_Id.RV (R : Int → World → Prop) (v : Value) (w : World) : Prop := match v with
  | .int .i64 r => R r w
  | _ => False
theorem elect_Elect_Id.RV_elim {R : Int → World → Prop} {v : Value} {w : World} (h : elect_Elect_Id.RV R v w) : ∃ r, Ending.returned v = .returned (.int .i64 r) ∧ R r w := by
  unfold elect_Elect_Id.RV at h
  split at h
  · exact ⟨_, rfl, h⟩
  · exact h.elim
/-- (*e2e/elect.Elect).Term -/
def elect_Elect_Term.Call (e_1 : Option Addr) (w : World) (R : Int → World → Prop) : Prop :=
  Calls Tryz.prog 105 #[.pointer e_1] w fun e w' => ∃ r, e = .returned (.int .i64 r) ∧ R r w'
theorem elect_Elect_Term.Call.mono {e_1} {w : World} {R R' : Int → World → Prop} (h : elect_Elect_Term.Call e_1 w R) (hr : ∀ r w', R r w' → R' r w') : elect_Elect_Term.Call e_1 w R' :=
  Calls.mono h fun e w' he => by
    obtain ⟨r, h1, h2⟩ := he
    exact ⟨r, h1, hr r w' h2⟩
def elect_Elect_Term.RV (R : Int → World → Prop) (v : Value) (w : World) : Prop := match v with
  | .int .i64 r => R r w
  | _ => False
theorem elect_Elect_Term.RV_elim {R : Int → World → Prop} {v : Value} {w : World} (h : elect_Elect_Term.RV R v w) : ∃ r, Ending.returned v = .returned (.int .i64 r) ∧ R r w := by
  unfold elect_Elect_Term.RV at h
  split at h
  · exact ⟨_, rfl, h⟩
  · exact h.elim
/-- (*e2e/elect.Elect).Vote -/
def elect_Elect_Vote.Call (e_1 : Option Addr) (w : World) (R : Int → World → Prop) : Prop :=
  Calls Tryz.prog 106 #[.pointer e_1] w fun e w' => ∃ r, e = .returned (.int .i64 r) ∧ R r w'
theorem elect_Elect_Vote.Call.mono {e_1} {w : World} {R R' : Int → World → Prop} (h : elect_Elect_Vote.Call e_1 w R) (hr : ∀ r w', R r w' → R' r w') : elect_Elect_Vote.Call e_1 w R' :=
  Calls.mono h fun e w' he => by
    obtain ⟨r, h1, h2⟩ := he
    exact ⟨r, h1, hr r w' h2⟩
def elect_Elect_Vote.RV (R : Int → World → Prop) (v : Value) (w : World) : Prop := match v with
  | .int .i64 r => R r w
  | _ => False
theorem elect_Elect_Vote.RV_elim {R : Int → World → Prop} {v : Value} {w : World} (h : elect_Elect_Vote.RV R v w) : ∃ r, Ending.returned v = .returned (.int .i64 r) ∧ R r w := by
  unfold elect_Elect_Vote.RV at h
  split at h
  · exact ⟨_, rfl, h⟩
  · exact h.elim
/-- (*e2e/elect.Elect).Role -/
def elect_Elect_Role.Call (e_1 : Option Addr) (w : World) (R : Int → World → Prop) : Prop :=
  Calls Tryz.prog 107 #[.pointer e_1] w fun e w' => ∃ r, e = .returned (.int .i64 r) ∧ R r w'
theorem elect_Elect_Role.Call.mono {e_1} {w : World} {R R' : Int → World → Prop} (h : elect_Elect_Role.Call e_1 w R) (hr : ∀ r w', R r w' → R' r w') : elect_Elect_Role.Call e_1 w R' :=
  Calls.mono h fun e w' he => by
    obtain ⟨r, h1, h2⟩ := he
    exact ⟨r, h1, hr r w' h2⟩
def elect_Elect_Role.RV (R : Int → World → Prop) (v : Value) (w : World) : Prop := match v with
  | .int .i64 r => R r w
  | _ => False
theorem elect_Elect_Role.RV_elim {R : Int → World → Prop} {v : Value} {w : World} (h : elect_Elect_Role.RV R v w) : ∃ r, Ending.returned v = .returned (.int .i64 r) ∧ R r w := by
  unfold elect_Elect_Role.RV at h
  split at h
  · exact ⟨_, rfl, h⟩
  · exact h.elim
/-- (*e2e/elect.Elect).Leader -/
def elect_Elect_Leader.Call (e_1 : Option Addr) (w : World) (R : Int → World → Prop) : Prop :=
  Calls Tryz.prog 108 #[.pointer e_1] w fun e w' => ∃ r, e = .returned (.int .i64 r) ∧ R r w'
theorem elect_Elect_Leader.Call.mono {e_1} {w : World} {R R' : Int → World → Prop} (h : elect_Elect_Leader.Call e_1 w R) (hr : ∀ r w', R r w' → R' r w') : elect_Elect_Leader.Call e_1 w R' :=
  Calls.mono h fun e w' he => by
    obtain ⟨r, h1, h2⟩ := he
    exact ⟨r, h1, hr r w' h2⟩
def elect_Elect_Leader.RV (R : Int → World → Prop) (v : Value) (w : World) : Prop := match v with
  | .int .i64 r => R r w
  | _ => False
theorem elect_Elect_Leader.RV_elim {R : Int → World → Prop} {v : Value} {w : World} (h : elect_Elect_Leader.RV R v w) : ∃ r, Ending.returned v = .returned (.int .i64 r) ∧ R r w := by
  unfold elect_Elect_Leader.RV at h
  split at h
  · exact ⟨_, rfl, h⟩
  · exact h.elim
/-- (*e2e/elect.Elect).Clock -/
def elect_Elect_Clock.Call (e_1 : Option Addr) (w : World) (R : Int → World → Prop) : Prop :=
  Calls Tryz.prog 109 #[.pointer e_1] w fun e w' => ∃ r, e = .returned (.int .i64 r) ∧ R r w'
theorem elect_Elect_Clock.Call.mono {e_1} {w : World} {R R' : Int → World → Prop} (h : elect_Elect_Clock.Call e_1 w R) (hr : ∀ r w', R r w' → R' r w') : elect_Elect_Clock.Call e_1 w R' :=
  Calls.mono h fun e w' he => by
    obtain ⟨r, h1, h2⟩ := he
    exact ⟨r, h1, hr r w' h2⟩
def elect_Elect_Clock.RV (R : Int → World → Prop) (v : Value) (w : World) : Prop := match v with
  | .int .i64 r => R r w
  | _ => False
theorem elect_Elect_Clock.RV_elim {R : Int → World → Prop} {v : Value} {w : World} (h : elect_Elect_Clock.RV R v w) : ∃ r, Ending.returned v = .returned (.int .i64 r) ∧ R r w := by
  unfold elect_Elect_Clock.RV at h
  split at h
  · exact ⟨_, rfl, h⟩
  · exact h.elim
/-- (*e2e/elect.Elect).Got -/
def elect_Elect_Got.Call (e_1 : Option Addr) (p : Int) (w : World) (R : Bool → World → Prop) : Prop :=
  Calls Tryz.prog 110 #[.pointer e_1, .int .i64 p] w fun e w' => ∃ r, e = .returned (.bool r) ∧ R r w'
theorem elect_Elect_Got.Call.mono {e_1 p} {w : World} {R R' : Bool → World → Prop} (h : elect_Elect_Got.Call e_1 p w R) (hr : ∀ r w', R r w' → R' r w') : elect_Elect_Got.Call e_1 p w R' :=
  Calls.mono h fun e w' he => by
    obtain ⟨r, h1, h2⟩ := he
    exact ⟨r, h1, hr r w' h2⟩
def elect_Elect_Got.RV (R : Bool → World → Prop) (v : Value) (w : World) : Prop := match v with
  | .bool r => R r w
  | _ => False
theorem elect_Elect_Got.RV_elim {R : Bool → World → Prop} {v : Value} {w : World} (h : elect_Elect_Got.RV R v w) : ∃ r, Ending.returned v = .returned (.bool r) ∧ R r w := by
  unfold elect_Elect_Got.RV at h
  split at h
  · exact ⟨_, rfl, h⟩
  · exact h.elim
/-- (*e2e/rlog.Log).Base -/
def rlog_Log_Base.Call (l : Option Addr) (w : World) (R : Int → World → Prop) : Prop :=
  Calls Tryz.prog 111 #[.pointer l] w fun e w' => ∃ r, e = .returned (.int .i64 r) ∧ R r w'
theorem rlog_Log_Base.Call.mono {l} {w : World} {R R' : Int → World → Prop} (h : rlog_Log_Base.Call l w R) (hr : ∀ r w', R r w' → R' r w') : rlog_Log_Base.Call l w R' :=
  Calls.mono h fun e w' he => by
    obtain ⟨r, h1, h2⟩ := he
    exact ⟨r, h1, hr r w' h2⟩
def rlog_Log_Base.RV (R : Int → World → Prop) (v : Value) (w : World) : Prop := match v with
  | .int .i64 r => R r w
  | _ => False
theorem rlog_Log_Base.RV_elim {R : Int → World → Prop} {v : Value} {w : World} (h : rlog_Log_Base.RV R v w) : ∃ r, Ending.returned v = .returned (.int .i64 r) ∧ R r w := by
  unfold rlog_Log_Base.RV at h
  split at h
  · exact ⟨_, rfl, h⟩
  · exact h.elim
/-- (*e2e/rlog.Log).BaseTerm -/
def rlog_Log_BaseTerm.Call (l : Option Addr) (w : World) (R : Int → World → Prop) : Prop :=
  Calls Tryz.prog 112 #[.pointer l] w fun e w' => ∃ r, e = .returned (.int .i64 r) ∧ R r w'
theorem rlog_Log_BaseTerm.Call.mono {l} {w : World} {R R' : Int → World → Prop} (h : rlog_Log_BaseTerm.Call l w R) (hr : ∀ r w', R r w' → R' r w') : rlog_Log_BaseTerm.Call l w R' :=
  Calls.mono h fun e w' he => by
    obtain ⟨r, h1, h2⟩ := he
    exact ⟨r, h1, hr r w' h2⟩
def rlog_Log_BaseTerm.RV (R : Int → World → Prop) (v : Value) (w : World) : Prop := match v with
  | .int .i64 r => R r w
  | _ => False
theorem rlog_Log_BaseTerm.RV_elim {R : Int → World → Prop} {v : Value} {w : World} (h : rlog_Log_BaseTerm.RV R v w) : ∃ r, Ending.returned v = .returned (.int .i64 r) ∧ R r w := by
  unfold rlog_Log_BaseTerm.RV at h
  split at h
  · exact ⟨_, rfl, h⟩
  · exact h.elim
/-- (*e2e/rlog.Log).Snap -/
def rlog_Log_Snap.Call (l : Option Addr) (w : World) (R : ByteArray → World → Prop) : Prop :=
  Calls Tryz.prog 113 #[.pointer l] w fun e w' => ∃ r, e = .returned (.string r) ∧ R r w'
theorem rlog_Log_Snap.Call.mono {l} {w : World} {R R' : ByteArray → World → Prop} (h : rlog_Log_Snap.Call l w R) (hr : ∀ r w', R r w' → R' r w') : rlog_Log_Snap.Call l w R' :=
  Calls.mono h fun e w' he => by
    obtain ⟨r, h1, h2⟩ := he
    exact ⟨r, h1, hr r w' h2⟩
def rlog_Log_Snap.RV (R : ByteArray → World → Prop) (v : Value) (w : World) : Prop := match v with
  | .string r => R r w
  | _ => False
theorem rlog_Log_Snap.RV_elim {R : ByteArray → World → Prop} {v : Value} {w : World} (h : rlog_Log_Snap.RV R v w) : ∃ r, Ending.returned v = .returned (.string r) ∧ R r w := by
  unfold rlog_Log_Snap.RV at h
  split at h
  · exact ⟨_, rfl, h⟩
  · exact h.elim
/-- (*e2e/kv.KV).Restore -/
def kv_KV_Restore.Call (k : Option Addr) (s : ByteArray) (w : World) (R : Int → World → Prop) : Prop :=
  Calls Tryz.prog 114 #[.pointer k, .string s] w fun e w' => ∃ r, e = .returned (.int .i64 r) ∧ R r w'
theorem kv_KV_Restore.Call.mono {k s} {w : World} {R R' : Int → World → Prop} (h : kv_KV_Restore.Call k s w R) (hr : ∀ r w', R r w' → R' r w') : kv_KV_Restore.Call k s w R' :=
  Calls.mono h fun e w' he => by
    obtain ⟨r, h1, h2⟩ := he
    exact ⟨r, h1, hr r w' h2⟩
def kv_KV_Restore.RV (R : Int → World → Prop) (v : Value) (w : World) : Prop := match v with
  | .int .i64 r => R r w
  | _ => False
theorem kv_KV_Restore.RV_elim {R : Int → World → Prop} {v : Value} {w : World} (h : kv_KV_Restore.RV R v w) : ∃ r, Ending.returned v = .returned (.int .i64 r) ∧ R r w := by
  unfold kv_KV_Restore.RV at h
  split at h
  · exact ⟨_, rfl, h⟩
  · exact h.elim
/-- (*e2e/rlogm.Log).Steps -/
def rlogm_Log_Steps.Call (l : Option Addr) (w : World) (R : Int → World → Prop) : Prop :=
  Calls Tryz.prog 115 #[.pointer l] w fun e w' => ∃ r, e = .returned (.int .i64 r) ∧ R r w'
theorem rlogm_Log_Steps.Call.mono {l} {w : World} {R R' : Int → World → Prop} (h : rlogm_Log_Steps.Call l w R) (hr : ∀ r w', R r w' → R' r w') : rlogm_Log_Steps.Call l w R' :=
  Calls.mono h fun e w' he => by
    obtain ⟨r, h1, h2⟩ := he
    exact ⟨r, h1, hr r w' h2⟩
def rlogm_Log_Steps.RV (R : Int → World → Prop) (v : Value) (w : World) : Prop := match v with
  | .int .i64 r => R r w
  | _ => False
theorem rlogm_Log_Steps.RV_elim {R : Int → World → Prop} {v : Value} {w : World} (h : rlogm_Log_Steps.RV R v w) : ∃ r, Ending.returned v = .returned (.int .i64 r) ∧ R r w := by
  unfold rlogm_Log_Steps.RV at h
  split at h
  · exact ⟨_, rfl, h⟩
  · exact h.elim
/-- (*e2e/rlogm.Log).After -/
def rlogm_Log_After.Call (l : Option Addr) (k : Int) (w : World) (R : Option Addr → World → Prop) : Prop :=
  Calls Tryz.prog 116 #[.pointer l, .int .i64 k] w fun e w' => ∃ r, e = .returned (.pointer r) ∧ R r w'
theorem rlogm_Log_After.Call.mono {l k} {w : World} {R R' : Option Addr → World → Prop} (h : rlogm_Log_After.Call l k w R) (hr : ∀ r w', R r w' → R' r w') : rlogm_Log_After.Call l k w R' :=
  Calls.mono h fun e w' he => by
    obtain ⟨r, h1, h2⟩ := he
    exact ⟨r, h1, hr r w' h2⟩
def rlogm_Log_After.RV (R : Option Addr → World → Prop) (v : Value) (w : World) : Prop := match v with
  | .pointer r => R r w
  | _ => False
theorem rlogm_Log_After.RV_elim {R : Option Addr → World → Prop} {v : Value} {w : World} (h : rlogm_Log_After.RV R v w) : ∃ r, Ending.returned v = .returned (.pointer r) ∧ R r w := by
  unfold rlogm_Log_After.RV at h
  split at h
  · exact ⟨_, rfl, h⟩
  · exact h.elim
/-- (*e2e/electm.Elect).Id -/
def electm_Elect_Id.Call (e_1 : Option Addr) (w : World) (R : Int → World → Prop) : Prop :=
  Calls Tryz.prog 117 #[.pointer e_1] w fun e w' => ∃ r, e = .returned (.int .i64 r) ∧ R r w'
theorem electm_Elect_Id.Call.mono {e_1} {w : World} {R R' : Int → World → Prop} (h : electm_Elect_Id.Call e_1 w R) (hr : ∀ r w', R r w' → R' r w') : electm_Elect_Id.Call e_1 w R' :=
  Calls.mono h fun e w' he => by
    obtain ⟨r, h1, h2⟩ := he
    exact ⟨r, h1, hr r w' h2⟩
def electm_Elect_Id.RV (R : Int → World → Prop) (v : Value) (w : World) : Prop := match v with
  | .int .i64 r => R r w
  | _ => False
theorem electm_Elect_Id.RV_elim {R : Int → World → Prop} {v : Value} {w : World} (h : electm_Elect_Id.RV R v w) : ∃ r, Ending.returned v = .returned (.int .i64 r) ∧ R r w := by
  unfold electm_Elect_Id.RV at h
  split at h
  · exact ⟨_, rfl, h⟩
  · exact h.elim
/-- (*e2e/store.Store).read -/
def store_Store_read.Call (t : Option Addr) (b : Int) (w : World) (R : ByteArray → World → Prop) : Prop :=
  Calls Tryz.prog 118 #[.pointer t, .int .i64 b] w fun e w' => ∃ r, e = .returned (.string r) ∧ R r w'
theorem store_Store_read.Call.mono {t b} {w : World} {R R' : ByteArray → World → Prop} (h : store_Store_read.Call t b w R) (hr : ∀ r w', R r w' → R' r w') : store_Store_read.Call t b w R' :=
  Calls.mono h fun e w' he => by
    obtain ⟨r, h1, h2⟩ := he
    exact ⟨r, h1, hr r w' h2⟩
def store_Store_read.RV (R : ByteArray → World → Prop) (v : Value) (w : World) : Prop := match v with
  | .string r => R r w
  | _ => False
theorem store_Store_read.RV_elim {R : ByteArray → World → Prop} {v : Value} {w : World} (h : store_Store_read.RV R v w) : ∃ r, Ending.returned v = .returned (.string r) ∧ R r w := by
  unfold store_Store_read.RV at h
  split at h
  · exact ⟨_, rfl, h⟩
  · exact h.elim
/-- e2e/store.decMeta -/
def store_decMeta.Call (b : ByteArray) (w : World) (R : Bool → Int → Int → Int → World → Prop) : Prop :=
  Calls Tryz.prog 119 #[.string b] w fun e w' => ∃ r_0 r_1 r_2 r_3, e = .returned (.agg #[.bool r_0, .int .i64 r_1, .int .i64 r_2, .int .i64 r_3]) ∧ R r_0 r_1 r_2 r_3 w'
theorem store_decMeta.Call.mono {b} {w : World} {R R' : Bool → Int → Int → Int → World → Prop} (h : store_decMeta.Call b w R) (hr : ∀ r_0 r_1 r_2 r_3 w', R r_0 r_1 r_2 r_3 w' → R' r_0 r_1 r_2 r_3 w') : store_decMeta.Call b w R' :=
  Calls.mono h fun e w' he => by
    obtain ⟨r_0, r_1, r_2, r_3, h1, h2⟩ := he
    exact ⟨r_0, r_1, r_2, r_3, h1, hr r_0 r_1 r_2 r_3 w' h2⟩
def store_decMeta.RV (R : Bool → Int → Int → Int → World → Prop) (v : Value) (w : World) : Prop := match v with
  | .agg ⟨[.bool r_0, .int .i64 r_1, .int .i64 r_2, .int .i64 r_3]⟩ => R r_0 r_1 r_2 r_3 w
  | _ => False
theorem store_decMeta.RV_elim {R : Bool → Int → Int → Int → World → Prop} {v : Value} {w : World} (h : store_decMeta.RV R v w) : ∃ r_0 r_1 r_2 r_3, Ending.returned v = .returned (.agg #[.bool r_0, .int .i64 r_1, .int .i64 r_2, .int .i64 r_3]) ∧ R r_0 r_1 r_2 r_3 w := by
  unfold store_decMeta.RV at h
  split at h
  · exact ⟨_, _, _, _, rfl, h⟩
  · exact h.elim
/-- e2e/store.decHead -/
def store_decHead.Call (b : ByteArray) (w : World) (R : Bool → Int → Int → Int → Int → Int → World → Prop) : Prop :=
  Calls Tryz.prog 120 #[.string b] w fun e w' => ∃ r_0 r_1 r_2 r_3 r_4 r_5, e = .returned (.agg #[.bool r_0, .int .i64 r_1, .int .i64 r_2, .int .i64 r_3, .int .i64 r_4, .int .i64 r_5]) ∧ R r_0 r_1 r_2 r_3 r_4 r_5 w'
theorem store_decHead.Call.mono {b} {w : World} {R R' : Bool → Int → Int → Int → Int → Int → World → Prop} (h : store_decHead.Call b w R) (hr : ∀ r_0 r_1 r_2 r_3 r_4 r_5 w', R r_0 r_1 r_2 r_3 r_4 r_5 w' → R' r_0 r_1 r_2 r_3 r_4 r_5 w') : store_decHead.Call b w R' :=
  Calls.mono h fun e w' he => by
    obtain ⟨r_0, r_1, r_2, r_3, r_4, r_5, h1, h2⟩ := he
    exact ⟨r_0, r_1, r_2, r_3, r_4, r_5, h1, hr r_0 r_1 r_2 r_3 r_4 r_5 w' h2⟩
def store_decHead.RV (R : Bool → Int → Int → Int → Int → Int → World → Prop) (v : Value) (w : World) : Prop := match v with
  | .agg ⟨[.bool r_0, .int .i64 r_1, .int .i64 r_2, .int .i64 r_3, .int .i64 r_4, .int .i64 r_5]⟩ => R r_0 r_1 r_2 r_3 r_4 r_5 w
  | _ => False
theorem store_decHead.RV_elim {R : Bool → Int → Int → Int → Int → Int → World → Prop} {v : Value} {w : World} (h : store_decHead.RV R v w) : ∃ r_0 r_1 r_2 r_3 r_4 r_5, Ending.returned v = .returned (.agg #[.bool r_0, .int .i64 r_1, .int .i64 r_2, .int .i64 r_3, .int .i64 r_4, .int .i64 r_5]) ∧ R r_0 r_1 r_2 r_3 r_4 r_5 w := by
  unfold store_decHead.RV at h
  split at h
  · exact ⟨_, _, _, _, _, _, rfl, h⟩
  · exact h.elim
/-- (*e2e/store.Store).area -/
def store_Store_area.Call (t : Option Addr) (a n : Int) (w : World) (R : ByteArray → World → Prop) : Prop :=
  Calls Tryz.prog 121 #[.pointer t, .int .i64 a, .int .i64 n] w fun e w' => ∃ r, e = .returned (.string r) ∧ R r w'
theorem store_Store_area.Call.mono {t a n} {w : World} {R R' : ByteArray → World → Prop} (h : store_Store_area.Call t a n w R) (hr : ∀ r w', R r w' → R' r w') : store_Store_area.Call t a n w R' :=
  Calls.mono h fun e w' he => by
    obtain ⟨r, h1, h2⟩ := he
    exact ⟨r, h1, hr r w' h2⟩
def store_Store_area.RV (R : ByteArray → World → Prop) (v : Value) (w : World) : Prop := match v with
  | .string r => R r w
  | _ => False
theorem store_Store_area.RV_elim {R : ByteArray → World → Prop} {v : Value} {w : World} (h : store_Store_area.RV R v w) : ∃ r, Ending.returned v = .returned (.string r) ∧ R r w := by
  unfold store_Store_area.RV at h
  split at h
  · exact ⟨_, rfl, h⟩
  · exact h.elim
/-- e2e/store.decRec -/
def store_decRec.Call (b : ByteArray) (w : World) (R : Int → Int → ByteArray → Bool → World → Prop) : Prop :=
  Calls Tryz.prog 122 #[.string b] w fun e w' => ∃ r0_0 r0_1 r0_2 r1, e = .returned (.tuple #[.agg #[.int .i64 r0_0, .int .i64 r0_1, .string r0_2], .bool r1]) ∧ R r0_0 r0_1 r0_2 r1 w'
theorem store_decRec.Call.mono {b} {w : World} {R R' : Int → Int → ByteArray → Bool → World → Prop} (h : store_decRec.Call b w R) (hr : ∀ r0_0 r0_1 r0_2 r1 w', R r0_0 r0_1 r0_2 r1 w' → R' r0_0 r0_1 r0_2 r1 w') : store_decRec.Call b w R' :=
  Calls.mono h fun e w' he => by
    obtain ⟨r0_0, r0_1, r0_2, r1, h1, h2⟩ := he
    exact ⟨r0_0, r0_1, r0_2, r1, h1, hr r0_0 r0_1 r0_2 r1 w' h2⟩
def store_decRec.RV (R : Int → Int → ByteArray → Bool → World → Prop) (v : Value) (w : World) : Prop := match v with
  | .tuple ⟨[.agg ⟨[.int .i64 r0_0, .int .i64 r0_1, .string r0_2]⟩, .bool r1]⟩ => R r0_0 r0_1 r0_2 r1 w
  | _ => False
theorem store_decRec.RV_elim {R : Int → Int → ByteArray → Bool → World → Prop} {v : Value} {w : World} (h : store_decRec.RV R v w) : ∃ r0_0 r0_1 r0_2 r1, Ending.returned v = .returned (.tuple #[.agg #[.int .i64 r0_0, .int .i64 r0_1, .string r0_2], .bool r1]) ∧ R r0_0 r0_1 r0_2 r1 w := by
  unfold store_decRec.RV at h
  split at h
  · exact ⟨_, _, _, _, rfl, h⟩
  · exact h.elim
/-- (*e2e/store.Store).Meta -/
def store_Store_Meta.Call (t : Option Addr) (w : World) (R : Int → Int → World → Prop) : Prop :=
  Calls Tryz.prog 123 #[.pointer t] w fun e w' => ∃ r0 r1, e = .returned (.tuple #[.int .i64 r0, .int .i64 r1]) ∧ R r0 r1 w'
theorem store_Store_Meta.Call.mono {t} {w : World} {R R' : Int → Int → World → Prop} (h : store_Store_Meta.Call t w R) (hr : ∀ r0 r1 w', R r0 r1 w' → R' r0 r1 w') : store_Store_Meta.Call t w R' :=
  Calls.mono h fun e w' he => by
    obtain ⟨r0, r1, h1, h2⟩ := he
    exact ⟨r0, r1, h1, hr r0 r1 w' h2⟩
def store_Store_Meta.RV (R : Int → Int → World → Prop) (v : Value) (w : World) : Prop := match v with
  | .tuple ⟨[.int .i64 r0, .int .i64 r1]⟩ => R r0 r1 w
  | _ => False
theorem store_Store_Meta.RV_elim {R : Int → Int → World → Prop} {v : Value} {w : World} (h : store_Store_Meta.RV R v w) : ∃ r0 r1, Ending.returned v = .returned (.tuple #[.int .i64 r0, .int .i64 r1]) ∧ R r0 r1 w := by
  unfold store_Store_Meta.RV at h
  split at h
  · exact ⟨_, _, rfl, h⟩
  · exact h.elim
/-- (*e2e/store.Store).Snap -/
def store_Store_Snap.Call (t : Option Addr) (w : World) (R : Int → Int → ByteArray → World → Prop) : Prop :=
  Calls Tryz.prog 124 #[.pointer t] w fun e w' => ∃ r0 r1 r2, e = .returned (.tuple #[.int .i64 r0, .int .i64 r1, .string r2]) ∧ R r0 r1 r2 w'
theorem store_Store_Snap.Call.mono {t} {w : World} {R R' : Int → Int → ByteArray → World → Prop} (h : store_Store_Snap.Call t w R) (hr : ∀ r0 r1 r2 w', R r0 r1 r2 w' → R' r0 r1 r2 w') : store_Store_Snap.Call t w R' :=
  Calls.mono h fun e w' he => by
    obtain ⟨r0, r1, r2, h1, h2⟩ := he
    exact ⟨r0, r1, r2, h1, hr r0 r1 r2 w' h2⟩
def store_Store_Snap.RV (R : Int → Int → ByteArray → World → Prop) (v : Value) (w : World) : Prop := match v with
  | .tuple ⟨[.int .i64 r0, .int .i64 r1, .string r2]⟩ => R r0 r1 r2 w
  | _ => False
theorem store_Store_Snap.RV_elim {R : Int → Int → ByteArray → World → Prop} {v : Value} {w : World} (h : store_Store_Snap.RV R v w) : ∃ r0 r1 r2, Ending.returned v = .returned (.tuple #[.int .i64 r0, .int .i64 r1, .string r2]) ∧ R r0 r1 r2 w := by
  unfold store_Store_Snap.RV at h
  split at h
  · exact ⟨_, _, _, rfl, h⟩
  · exact h.elim
/-- (*e2e/rlog.Log).load -/
def rlog_Log_load.Call (l : Option Addr) (i : Int) (w : World) (R : Bool → World → Prop) : Prop :=
  Calls Tryz.prog 125 #[.pointer l, .int .i64 i] w fun e w' => ∃ r, e = .returned (.bool r) ∧ R r w'
theorem rlog_Log_load.Call.mono {l i} {w : World} {R R' : Bool → World → Prop} (h : rlog_Log_load.Call l i w R) (hr : ∀ r w', R r w' → R' r w') : rlog_Log_load.Call l i w R' :=
  Calls.mono h fun e w' he => by
    obtain ⟨r, h1, h2⟩ := he
    exact ⟨r, h1, hr r w' h2⟩
def rlog_Log_load.RV (R : Bool → World → Prop) (v : Value) (w : World) : Prop := match v with
  | .bool r => R r w
  | _ => False
theorem rlog_Log_load.RV_elim {R : Bool → World → Prop} {v : Value} {w : World} (h : rlog_Log_load.RV R v w) : ∃ r, Ending.returned v = .returned (.bool r) ∧ R r w := by
  unfold rlog_Log_load.RV at h
  split at h
  · exact ⟨_, rfl, h⟩
  · exact h.elim
/-- (*e2e/rlog.Log).sweep -/
def rlog_Log_sweep.Call (l : Option Addr) (w : World) (R : World → Prop) : Prop :=
  Calls Tryz.prog 126 #[.pointer l] w fun e w' => e = .returned (.tuple #[]) ∧ R w'
theorem rlog_Log_sweep.Call.mono {l} {w : World} {R R' : World → Prop} (h : rlog_Log_sweep.Call l w R) (hr : ∀ w', R w' → R'  w') : rlog_Log_sweep.Call l w R' :=
  Calls.mono h fun e w' he => by
    obtain ⟨h1, h2⟩ := he
    exact ⟨h1, hr  w' h2⟩
def rlog_Log_sweep.RV (R : World → Prop) (v : Value) (w : World) : Prop := match v with
  | .tuple ⟨[]⟩ => R w
  | _ => False
theorem rlog_Log_sweep.RV_elim {R : World → Prop} {v : Value} {w : World} (h : rlog_Log_sweep.RV R v w) : Ending.returned v = .returned (.tuple #[]) ∧ R w := by
  unfold rlog_Log_sweep.RV at h
  split at h
  · exact ⟨rfl, h⟩
  · exact h.elim
/-- (*e2e/elect.Elect).put -/
def elect_Elect_put.Call (e_1 : Option Addr) (role vote leader : Int) (w : World) (R : World → Prop) : Prop :=
  Calls Tryz.prog 127 #[.pointer e_1, .int .i64 role, .int .i64 vote, .int .i64 leader] w fun e w' => e = .returned (.tuple #[]) ∧ R w'
theorem elect_Elect_put.Call.mono {e_1 role vote leader} {w : World} {R R' : World → Prop} (h : elect_Elect_put.Call e_1 role vote leader w R) (hr : ∀ w', R w' → R'  w') : elect_Elect_put.Call e_1 role vote leader w R' :=
  Calls.mono h fun e w' he => by
    obtain ⟨h1, h2⟩ := he
    exact ⟨h1, hr  w' h2⟩
def elect_Elect_put.RV (R : World → Prop) (v : Value) (w : World) : Prop := match v with
  | .tuple ⟨[]⟩ => R w
  | _ => False
theorem elect_Elect_put.RV_elim {R : World → Prop} {v : Value} {w : World} (h : elect_Elect_put.RV R v w) : Ending.returned v = .returned (.tuple #[]) ∧ R w := by
  unfold elect_Elect_put.RV at h
  split at h
  · exact ⟨rfl, h⟩
  · exact h.elim
/-- (*e2e/elect.Elect).wind -/
def elect_Elect_wind.Call (e_1 : Option Addr) (w : World) (R : World → Prop) : Prop :=
  Calls Tryz.prog 128 #[.pointer e_1] w fun e w' => e = .returned (.tuple #[]) ∧ R w'
theorem elect_Elect_wind.Call.mono {e_1} {w : World} {R R' : World → Prop} (h : elect_Elect_wind.Call e_1 w R) (hr : ∀ w', R w' → R'  w') : elect_Elect_wind.Call e_1 w R' :=
  Calls.mono h fun e w' he => by
    obtain ⟨h1, h2⟩ := he
    exact ⟨h1, hr  w' h2⟩
def elect_Elect_wind.RV (R : World → Prop) (v : Value) (w : World) : Prop := match v with
  | .tuple ⟨[]⟩ => R w
  | _ => False
theorem elect_Elect_wind.RV_elim {R : World → Prop} {v : Value} {w : World} (h : elect_Elect_wind.RV R v w) : Ending.returned v = .returned (.tuple #[]) ∧ R w := by
  unfold elect_Elect_wind.RV at h
  split at h
  · exact ⟨rfl, h⟩
  · exact h.elim
/-- (*e2e/rlog.Log).Term -/
def rlog_Log_Term.Call (l : Option Addr) (w : World) (R : Int → World → Prop) : Prop :=
  Calls Tryz.prog 129 #[.pointer l] w fun e w' => ∃ r, e = .returned (.int .i64 r) ∧ R r w'
theorem rlog_Log_Term.Call.mono {l} {w : World} {R R' : Int → World → Prop} (h : rlog_Log_Term.Call l w R) (hr : ∀ r w', R r w' → R' r w') : rlog_Log_Term.Call l w R' :=
  Calls.mono h fun e w' he => by
    obtain ⟨r, h1, h2⟩ := he
    exact ⟨r, h1, hr r w' h2⟩
def rlog_Log_Term.RV (R : Int → World → Prop) (v : Value) (w : World) : Prop := match v with
  | .int .i64 r => R r w
  | _ => False
theorem rlog_Log_Term.RV_elim {R : Int → World → Prop} {v : Value} {w : World} (h : rlog_Log_Term.RV R v w) : ∃ r, Ending.returned v = .returned (.int .i64 r) ∧ R r w := by
  unfold rlog_Log_Term.RV at h
  split at h
  · exact ⟨_, rfl, h⟩
  · exact h.elim
/-- (*e2e/rlog.Log).Vote -/
def rlog_Log_Vote.Call (l : Option Addr) (w : World) (R : Int → World → Prop) : Prop :=
  Calls Tryz.prog 130 #[.pointer l] w fun e w' => ∃ r, e = .returned (.int .i64 r) ∧ R r w'
theorem rlog_Log_Vote.Call.mono {l} {w : World} {R R' : Int → World → Prop} (h : rlog_Log_Vote.Call l w R) (hr : ∀ r w', R r w' → R' r w') : rlog_Log_Vote.Call l w R' :=
  Calls.mono h fun e w' he => by
    obtain ⟨r, h1, h2⟩ := he
    exact ⟨r, h1, hr r w' h2⟩
def rlog_Log_Vote.RV (R : Int → World → Prop) (v : Value) (w : World) : Prop := match v with
  | .int .i64 r => R r w
  | _ => False
theorem rlog_Log_Vote.RV_elim {R : Int → World → Prop} {v : Value} {w : World} (h : rlog_Log_Vote.RV R v w) : ∃ r, Ending.returned v = .returned (.int .i64 r) ∧ R r w := by
  unfold rlog_Log_Vote.RV at h
  split at h
  · exact ⟨_, rfl, h⟩
  · exact h.elim
/-- (*e2e/elect.Elect).Restore -/
def elect_Elect_Restore.Call (e_1 : Option Addr) (term vote : Int) (w : World) (R : Int → World → Prop) : Prop :=
  Calls Tryz.prog 131 #[.pointer e_1, .int .i64 term, .int .i64 vote] w fun e w' => ∃ r, e = .returned (.int .i64 r) ∧ R r w'
theorem elect_Elect_Restore.Call.mono {e_1 term vote} {w : World} {R R' : Int → World → Prop} (h : elect_Elect_Restore.Call e_1 term vote w R) (hr : ∀ r w', R r w' → R' r w') : elect_Elect_Restore.Call e_1 term vote w R' :=
  Calls.mono h fun e w' he => by
    obtain ⟨r, h1, h2⟩ := he
    exact ⟨r, h1, hr r w' h2⟩
def elect_Elect_Restore.RV (R : Int → World → Prop) (v : Value) (w : World) : Prop := match v with
  | .int .i64 r => R r w
  | _ => False
theorem elect_Elect_Restore.RV_elim {R : Int → World → Prop} {v : Value} {w : World} (h : elect_Elect_Restore.RV R v w) : ∃ r, Ending.returned v = .returned (.int .i64 r) ∧ R r w := by
  unfold elect_Elect_Restore.RV at h
  split at h
  · exact ⟨_, rfl, h⟩
  · exact h.elim
/-- (*e2e/sync.Sync).refresh -/
def sync_Sync_refresh.Call (s : Option Addr) (w : World) (R : World → Prop) : Prop :=
  Calls Tryz.prog 132 #[.pointer s] w fun e w' => e = .returned (.tuple #[]) ∧ R w'
theorem sync_Sync_refresh.Call.mono {s} {w : World} {R R' : World → Prop} (h : sync_Sync_refresh.Call s w R) (hr : ∀ w', R w' → R'  w') : sync_Sync_refresh.Call s w R' :=
  Calls.mono h fun e w' he => by
    obtain ⟨h1, h2⟩ := he
    exact ⟨h1, hr  w' h2⟩
def sync_Sync_refresh.RV (R : World → Prop) (v : Value) (w : World) : Prop := match v with
  | .tuple ⟨[]⟩ => R w
  | _ => False
theorem sync_Sync_refresh.RV_elim {R : World → Prop} {v : Value} {w : World} (h : sync_Sync_refresh.RV R v w) : Ending.returned v = .returned (.tuple #[]) ∧ R w := by
  unfold sync_Sync_refresh.RV at h
  split at h
  · exact ⟨rfl, h⟩
  · exact h.elim
/-- (*e2e/rlogm.state).clone -/
def rlogm_state_clone.Call (s : Option Addr) (w : World) (R : Option Addr → World → Prop) : Prop :=
  Calls Tryz.prog 133 #[.pointer s] w fun e w' => ∃ r, e = .returned (.pointer r) ∧ R r w'
theorem rlogm_state_clone.Call.mono {s} {w : World} {R R' : Option Addr → World → Prop} (h : rlogm_state_clone.Call s w R) (hr : ∀ r w', R r w' → R' r w') : rlogm_state_clone.Call s w R' :=
  Calls.mono h fun e w' he => by
    obtain ⟨r, h1, h2⟩ := he
    exact ⟨r, h1, hr r w' h2⟩
def rlogm_state_clone.RV (R : Option Addr → World → Prop) (v : Value) (w : World) : Prop := match v with
  | .pointer r => R r w
  | _ => False
theorem rlogm_state_clone.RV_elim {R : Option Addr → World → Prop} {v : Value} {w : World} (h : rlogm_state_clone.RV R v w) : ∃ r, Ending.returned v = .returned (.pointer r) ∧ R r w := by
  unfold rlogm_state_clone.RV at h
  split at h
  · exact ⟨_, rfl, h⟩
  · exact h.elim
/-- (*e2e/rlogm.Log).Term -/
def rlogm_Log_Term.Call (l : Option Addr) (w : World) (R : Int → World → Prop) : Prop :=
  Calls Tryz.prog 134 #[.pointer l] w fun e w' => ∃ r, e = .returned (.int .i64 r) ∧ R r w'
theorem rlogm_Log_Term.Call.mono {l} {w : World} {R R' : Int → World → Prop} (h : rlogm_Log_Term.Call l w R) (hr : ∀ r w', R r w' → R' r w') : rlogm_Log_Term.Call l w R' :=
  Calls.mono h fun e w' he => by
    obtain ⟨r, h1, h2⟩ := he
    exact ⟨r, h1, hr r w' h2⟩
def rlogm_Log_Term.RV (R : Int → World → Prop) (v : Value) (w : World) : Prop := match v with
  | .int .i64 r => R r w
  | _ => False
theorem rlogm_Log_Term.RV_elim {R : Int → World → Prop} {v : Value} {w : World} (h : rlogm_Log_Term.RV R v w) : ∃ r, Ending.returned v = .returned (.int .i64 r) ∧ R r w := by
  unfold rlogm_Log_Term.RV at h
  split at h
  · exact ⟨_, rfl, h⟩
  · exact h.elim
/-- (*e2e/rlogm.Log).Vote -/
def rlogm_Log_Vote.Call (l : Option Addr) (w : World) (R : Int → World → Prop) : Prop :=
  Calls Tryz.prog 135 #[.pointer l] w fun e w' => ∃ r, e = .returned (.int .i64 r) ∧ R r w'
theorem rlogm_Log_Vote.Call.mono {l} {w : World} {R R' : Int → World → Prop} (h : rlogm_Log_Vote.Call l w R) (hr : ∀ r w', R r w' → R' r w') : rlogm_Log_Vote.Call l w R' :=
  Calls.mono h fun e w' he => by
    obtain ⟨r, h1, h2⟩ := he
    exact ⟨r, h1, hr r w' h2⟩
def rlogm_Log_Vote.RV (R : Int → World → Prop) (v : Value) (w : World) : Prop := match v with
  | .int .i64 r => R r w
  | _ => False
theorem rlogm_Log_Vote.RV_elim {R : Int → World → Prop} {v : Value} {w : World} (h : rlogm_Log_Vote.RV R v w) : ∃ r, Ending.returned v = .returned (.int .i64 r) ∧ R r w := by
  unfold rlogm_Log_Vote.RV at h
  split at h
  · exact ⟨_, rfl, h⟩
  · exact h.elim
/-- (*e2e/electm.Elect).Restore -/
def electm_Elect_Restore.Call (e_1 : Option Addr) (term vote : Int) (w : World) (R : Int → World → Prop) : Prop :=
  Calls Tryz.prog 136 #[.pointer e_1, .int .i64 term, .int .i64 vote] w fun e w' => ∃ r, e = .returned (.int .i64 r) ∧ R r w'
theorem electm_Elect_Restore.Call.mono {e_1 term vote} {w : World} {R R' : Int → World → Prop} (h : electm_Elect_Restore.Call e_1 term vote w R) (hr : ∀ r w', R r w' → R' r w') : electm_Elect_Restore.Call e_1 term vote w R' :=
  Calls.mono h fun e w' he => by
    obtain ⟨r, h1, h2⟩ := he
    exact ⟨r, h1, hr r w' h2⟩
def electm_Elect_Restore.RV (R : Int → World → Prop) (v : Value) (w : World) : Prop := match v with
  | .int .i64 r => R r w
  | _ => False
theorem electm_Elect_Restore.RV_elim {R : Int → World → Prop} {v : Value} {w : World} (h : electm_Elect_Restore.RV R v w) : ∃ r, Ending.returned v = .returned (.int .i64 r) ∧ R r w := by
  unfold electm_Elect_Restore.RV at h
  split at h
  · exact ⟨_, rfl, h⟩
  · exact h.elim
/-- (*e2e/rlogm.Log).Base -/
def rlogm_Log_Base.Call (l : Option Addr) (w : World) (R : Int → World → Prop) : Prop :=
  Calls Tryz.prog 137 #[.pointer l] w fun e w' => ∃ r, e = .returned (.int .i64 r) ∧ R r w'
theorem rlogm_Log_Base.Call.mono {l} {w : World} {R R' : Int → World → Prop} (h : rlogm_Log_Base.Call l w R) (hr : ∀ r w', R r w' → R' r w') : rlogm_Log_Base.Call l w R' :=
  Calls.mono h fun e w' he => by
    obtain ⟨r, h1, h2⟩ := he
    exact ⟨r, h1, hr r w' h2⟩
def rlogm_Log_Base.RV (R : Int → World → Prop) (v : Value) (w : World) : Prop := match v with
  | .int .i64 r => R r w
  | _ => False
theorem rlogm_Log_Base.RV_elim {R : Int → World → Prop} {v : Value} {w : World} (h : rlogm_Log_Base.RV R v w) : ∃ r, Ending.returned v = .returned (.int .i64 r) ∧ R r w := by
  unfold rlogm_Log_Base.RV at h
  split at h
  · exact ⟨_, rfl, h⟩
  · exact h.elim
/-- (*e2e/kvm.KV).Restore -/
def kvm_KV_Restore.Call (k : Option Addr) (s : ByteArray) (w : World) (R : Int → World → Prop) : Prop :=
  Calls Tryz.prog 138 #[.pointer k, .string s] w fun e w' => ∃ r, e = .returned (.int .i64 r) ∧ R r w'
theorem kvm_KV_Restore.Call.mono {k s} {w : World} {R R' : Int → World → Prop} (h : kvm_KV_Restore.Call k s w R) (hr : ∀ r w', R r w' → R' r w') : kvm_KV_Restore.Call k s w R' :=
  Calls.mono h fun e w' he => by
    obtain ⟨r, h1, h2⟩ := he
    exact ⟨r, h1, hr r w' h2⟩
def kvm_KV_Restore.RV (R : Int → World → Prop) (v : Value) (w : World) : Prop := match v with
  | .int .i64 r => R r w
  | _ => False
theorem kvm_KV_Restore.RV_elim {R : Int → World → Prop} {v : Value} {w : World} (h : kvm_KV_Restore.RV R v w) : ∃ r, Ending.returned v = .returned (.int .i64 r) ∧ R r w := by
  unfold kvm_KV_Restore.RV at h
  split at h
  · exact ⟨_, rfl, h⟩
  · exact h.elim
/-- (*e2e/elect.Elect).Tick -/
def elect_Elect_Tick.Call (e_1 : Option Addr) (w : World) (R : Int → World → Prop) : Prop :=
  Calls Tryz.prog 139 #[.pointer e_1] w fun e w' => ∃ r, e = .returned (.int .i64 r) ∧ R r w'
theorem elect_Elect_Tick.Call.mono {e_1} {w : World} {R R' : Int → World → Prop} (h : elect_Elect_Tick.Call e_1 w R) (hr : ∀ r w', R r w' → R' r w') : elect_Elect_Tick.Call e_1 w R' :=
  Calls.mono h fun e w' he => by
    obtain ⟨r, h1, h2⟩ := he
    exact ⟨r, h1, hr r w' h2⟩
def elect_Elect_Tick.RV (R : Int → World → Prop) (v : Value) (w : World) : Prop := match v with
  | .int .i64 r => R r w
  | _ => False
theorem elect_Elect_Tick.RV_elim {R : Int → World → Prop} {v : Value} {w : World} (h : elect_Elect_Tick.RV R v w) : ∃ r, Ending.returned v = .returned (.int .i64 r) ∧ R r w := by
  unfold elect_Elect_Tick.RV at h
  split at h
  · exact ⟨_, rfl, h⟩
  · exact h.elim
/-- (*e2e/sync.Sync).persist -/
def sync_Sync_persist.Call (s : Option Addr) (w : World) (R : World → Prop) : Prop :=
  Calls Tryz.prog 140 #[.pointer s] w fun e w' => e = .returned (.tuple #[]) ∧ R w'
theorem sync_Sync_persist.Call.mono {s} {w : World} {R R' : World → Prop} (h : sync_Sync_persist.Call s w R) (hr : ∀ w', R w' → R'  w') : sync_Sync_persist.Call s w R' :=
  Calls.mono h fun e w' he => by
    obtain ⟨h1, h2⟩ := he
    exact ⟨h1, hr  w' h2⟩
def sync_Sync_persist.RV (R : World → Prop) (v : Value) (w : World) : Prop := match v with
  | .tuple ⟨[]⟩ => R w
  | _ => False
theorem sync_Sync_persist.RV_elim {R : World → Prop} {v : Value} {w : World} (h : sync_Sync_persist.RV R v w) : Ending.returned v = .returned (.tuple #[]) ∧ R w := by
  unfold sync_Sync_persist.RV at h
  split at h
  · exact ⟨rfl, h⟩
  · exact h.elim
/-- (*e2e/sync.Sync).sendAll -/
def sync_Sync_sendAll.Call (s : Option Addr) (w : World) (R : World → Prop) : Prop :=
  Calls Tryz.prog 141 #[.pointer s] w fun e w' => e = .returned (.tuple #[]) ∧ R w'
theorem sync_Sync_sendAll.Call.mono {s} {w : World} {R R' : World → Prop} (h : sync_Sync_sendAll.Call s w R) (hr : ∀ w', R w' → R'  w') : sync_Sync_sendAll.Call s w R' :=
  Calls.mono h fun e w' he => by
    obtain ⟨h1, h2⟩ := he
    exact ⟨h1, hr  w' h2⟩
def sync_Sync_sendAll.RV (R : World → Prop) (v : Value) (w : World) : Prop := match v with
  | .tuple ⟨[]⟩ => R w
  | _ => False
theorem sync_Sync_sendAll.RV_elim {R : World → Prop} {v : Value} {w : World} (h : sync_Sync_sendAll.RV R v w) : Ending.returned v = .returned (.tuple #[]) ∧ R w := by
  unfold sync_Sync_sendAll.RV at h
  split at h
  · exact ⟨rfl, h⟩
  · exact h.elim
/-- (*e2e/sync.Sync).post -/
def sync_Sync_post.Call (s : Option Addr) (m0_0 m0_1 m0_2 m0_3 m0_4 m0_5 m0_6 : Int) (m0_7 : Bool) (m0_8_b : Option Addr) (m0_8_l m0_8_c : Nat) (m0_9 : ByteArray) (w : World) (R : World → Prop) : Prop :=
  Calls Tryz.prog 142 #[.pointer s, .agg #[.int .i64 m0_0, .int .i64 m0_1, .int .i64 m0_2, .int .i64 m0_3, .int .i64 m0_4, .int .i64 m0_5, .int .i64 m0_6, .bool m0_7, .slice m0_8_b m0_8_l m0_8_c, .string m0_9]] w fun e w' => e = .returned (.tuple #[]) ∧ R w'
theorem sync_Sync_post.Call.mono {s m0_0 m0_1 m0_2 m0_3 m0_4 m0_5 m0_6 m0_7 m0_8_b m0_8_l m0_8_c m0_9} {w : World} {R R' : World → Prop} (h : sync_Sync_post.Call s m0_0 m0_1 m0_2 m0_3 m0_4 m0_5 m0_6 m0_7 m0_8_b m0_8_l m0_8_c m0_9 w R) (hr : ∀ w', R w' → R'  w') : sync_Sync_post.Call s m0_0 m0_1 m0_2 m0_3 m0_4 m0_5 m0_6 m0_7 m0_8_b m0_8_l m0_8_c m0_9 w R' :=
  Calls.mono h fun e w' he => by
    obtain ⟨h1, h2⟩ := he
    exact ⟨h1, hr  w' h2⟩
def sync_Sync_post.RV (R : World → Prop) (v : Value) (w : World) : Prop := match v with
  | .tuple ⟨[]⟩ => R w
  | _ => False
theorem sync_Sync_post.RV_elim {R : World → Prop} {v : Value} {w : World} (h : sync_Sync_post.RV R v w) : Ending.returned v = .returned (.tuple #[]) ∧ R w := by
  unfold sync_Sync_post.RV at h
  split at h
  · exact ⟨rfl, h⟩
  · exact h.elim
/-- (*e2e/sync.Sync).flush -/
def sync_Sync_flush.Call (s : Option Addr) (w : World) (R : Option Addr → Nat → Nat → World → Prop) : Prop :=
  Calls Tryz.prog 143 #[.pointer s] w fun e w' => ∃ r_b r_l r_c, e = .returned (.slice r_b r_l r_c) ∧ R r_b r_l r_c w'
theorem sync_Sync_flush.Call.mono {s} {w : World} {R R' : Option Addr → Nat → Nat → World → Prop} (h : sync_Sync_flush.Call s w R) (hr : ∀ r_b r_l r_c w', R r_b r_l r_c w' → R' r_b r_l r_c w') : sync_Sync_flush.Call s w R' :=
  Calls.mono h fun e w' he => by
    obtain ⟨r_b, r_l, r_c, h1, h2⟩ := he
    exact ⟨r_b, r_l, r_c, h1, hr r_b r_l r_c w' h2⟩
def sync_Sync_flush.RV (R : Option Addr → Nat → Nat → World → Prop) (v : Value) (w : World) : Prop := match v with
  | .slice r_b r_l r_c => R r_b r_l r_c w
  | _ => False
theorem sync_Sync_flush.RV_elim {R : Option Addr → Nat → Nat → World → Prop} {v : Value} {w : World} (h : sync_Sync_flush.RV R v w) : ∃ r_b r_l r_c, Ending.returned v = .returned (.slice r_b r_l r_c) ∧ R r_b r_l r_c w := by
  unfold sync_Sync_flush.RV at h
  split at h
  · exact ⟨_, _, _, rfl, h⟩
  · exact h.elim
/-- (*e2e/node.Node).compact -/
def node_Node_compact.Call (n : Option Addr) (base last : Int) (w : World) (R : World → Prop) : Prop :=
  Calls Tryz.prog 144 #[.pointer n, .int .i64 base, .int .i64 last] w fun e w' => e = .returned (.tuple #[]) ∧ R w'
theorem node_Node_compact.Call.mono {n base last} {w : World} {R R' : World → Prop} (h : node_Node_compact.Call n base last w R) (hr : ∀ w', R w' → R'  w') : node_Node_compact.Call n base last w R' :=
  Calls.mono h fun e w' he => by
    obtain ⟨h1, h2⟩ := he
    exact ⟨h1, hr  w' h2⟩
def node_Node_compact.RV (R : World → Prop) (v : Value) (w : World) : Prop := match v with
  | .tuple ⟨[]⟩ => R w
  | _ => False
theorem node_Node_compact.RV_elim {R : World → Prop} {v : Value} {w : World} (h : node_Node_compact.RV R v w) : Ending.returned v = .returned (.tuple #[]) ∧ R w := by
  unfold node_Node_compact.RV at h
  split at h
  · exact ⟨rfl, h⟩
  · exact h.elim
/-- (*e2e/node.Node).apply -/
def node_Node_apply.Call (n : Option Addr) (commit : Int) (w : World) (R : World → Prop) : Prop :=
  Calls Tryz.prog 145 #[.pointer n, .int .i64 commit] w fun e w' => e = .returned (.tuple #[]) ∧ R w'
theorem node_Node_apply.Call.mono {n commit} {w : World} {R R' : World → Prop} (h : node_Node_apply.Call n commit w R) (hr : ∀ w', R w' → R'  w') : node_Node_apply.Call n commit w R' :=
  Calls.mono h fun e w' he => by
    obtain ⟨h1, h2⟩ := he
    exact ⟨h1, hr  w' h2⟩
def node_Node_apply.RV (R : World → Prop) (v : Value) (w : World) : Prop := match v with
  | .tuple ⟨[]⟩ => R w
  | _ => False
theorem node_Node_apply.RV_elim {R : World → Prop} {v : Value} {w : World} (h : node_Node_apply.RV R v w) : Ending.returned v = .returned (.tuple #[]) ∧ R w := by
  unfold node_Node_apply.RV at h
  split at h
  · exact ⟨rfl, h⟩
  · exact h.elim
/-- (*e2e/node.Node).giveUp -/
def node_Node_giveUp.Call (n : Option Addr) (role : Int) (w : World) (R : World → Prop) : Prop :=
  Calls Tryz.prog 146 #[.pointer n, .int .i64 role] w fun e w' => e = .returned (.tuple #[]) ∧ R w'
theorem node_Node_giveUp.Call.mono {n role} {w : World} {R R' : World → Prop} (h : node_Node_giveUp.Call n role w R) (hr : ∀ w', R w' → R'  w') : node_Node_giveUp.Call n role w R' :=
  Calls.mono h fun e w' he => by
    obtain ⟨h1, h2⟩ := he
    exact ⟨h1, hr  w' h2⟩
def node_Node_giveUp.RV (R : World → Prop) (v : Value) (w : World) : Prop := match v with
  | .tuple ⟨[]⟩ => R w
  | _ => False
theorem node_Node_giveUp.RV_elim {R : World → Prop} {v : Value} {w : World} (h : node_Node_giveUp.RV R v w) : Ending.returned v = .returned (.tuple #[]) ∧ R w := by
  unfold node_Node_giveUp.RV at h
  split at h
  · exact ⟨rfl, h⟩
  · exact h.elim
/-- (*e2e/node.Node).did -/
def node_Node_did.Call (n msgs_b : Option Addr) (msgs_l msgs_c : Nat) (w : World) (R : Int → Option Addr → Nat → Nat → Option Addr → Nat → Nat → World → Prop) : Prop :=
  Calls Tryz.prog 147 #[.pointer n, .slice msgs_b msgs_l msgs_c] w fun e w' => ∃ r_0 r_1_b r_1_l r_1_c r_2_b r_2_l r_2_c, e = .returned (.agg #[.int .i64 r_0, .slice r_1_b r_1_l r_1_c, .slice r_2_b r_2_l r_2_c]) ∧ R r_0 r_1_b r_1_l r_1_c r_2_b r_2_l r_2_c w'
theorem node_Node_did.Call.mono {n msgs_b msgs_l msgs_c} {w : World} {R R' : Int → Option Addr → Nat → Nat → Option Addr → Nat → Nat → World → Prop} (h : node_Node_did.Call n msgs_b msgs_l msgs_c w R) (hr : ∀ r_0 r_1_b r_1_l r_1_c r_2_b r_2_l r_2_c w', R r_0 r_1_b r_1_l r_1_c r_2_b r_2_l r_2_c w' → R' r_0 r_1_b r_1_l r_1_c r_2_b r_2_l r_2_c w') : node_Node_did.Call n msgs_b msgs_l msgs_c w R' :=
  Calls.mono h fun e w' he => by
    obtain ⟨r_0, r_1_b, r_1_l, r_1_c, r_2_b, r_2_l, r_2_c, h1, h2⟩ := he
    exact ⟨r_0, r_1_b, r_1_l, r_1_c, r_2_b, r_2_l, r_2_c, h1, hr r_0 r_1_b r_1_l r_1_c r_2_b r_2_l r_2_c w' h2⟩
def node_Node_did.RV (R : Int → Option Addr → Nat → Nat → Option Addr → Nat → Nat → World → Prop) (v : Value) (w : World) : Prop := match v with
  | .agg ⟨[.int .i64 r_0, .slice r_1_b r_1_l r_1_c, .slice r_2_b r_2_l r_2_c]⟩ => R r_0 r_1_b r_1_l r_1_c r_2_b r_2_l r_2_c w
  | _ => False
theorem node_Node_did.RV_elim {R : Int → Option Addr → Nat → Nat → Option Addr → Nat → Nat → World → Prop} {v : Value} {w : World} (h : node_Node_did.RV R v w) : ∃ r_0 r_1_b r_1_l r_1_c r_2_b r_2_l r_2_c, Ending.returned v = .returned (.agg #[.int .i64 r_0, .slice r_1_b r_1_l r_1_c, .slice r_2_b r_2_l r_2_c]) ∧ R r_0 r_1_b r_1_l r_1_c r_2_b r_2_l r_2_c w := by
  unfold node_Node_did.RV at h
  split at h
  · exact ⟨_, _, _, _, _, _, _, rfl, h⟩
  · exact h.elim
/-- e2e/node.sumOf -/
def node_sumOf.Call (s : ByteArray) (end0 : Int) (w : World) (R : Int → World → Prop) : Prop :=
  Calls Tryz.prog 148 #[.string s, .int .i64 end0] w fun e w' => ∃ r, e = .returned (.int .i64 r) ∧ R r w'
theorem node_sumOf.Call.mono {s end0} {w : World} {R R' : Int → World → Prop} (h : node_sumOf.Call s end0 w R) (hr : ∀ r w', R r w' → R' r w') : node_sumOf.Call s end0 w R' :=
  Calls.mono h fun e w' he => by
    obtain ⟨r, h1, h2⟩ := he
    exact ⟨r, h1, hr r w' h2⟩
def node_sumOf.RV (R : Int → World → Prop) (v : Value) (w : World) : Prop := match v with
  | .int .i64 r => R r w
  | _ => False
theorem node_sumOf.RV_elim {R : Int → World → Prop} {v : Value} {w : World} (h : node_sumOf.RV R v w) : ∃ r, Ending.returned v = .returned (.int .i64 r) ∧ R r w := by
  unfold node_sumOf.RV at h
  split at h
  · exact ⟨_, rfl, h⟩
  · exact h.elim
/-- (*e2e/node.dec).one -/
def node_dec_one.Call (d : Option Addr) (w : World) (R : Int → World → Prop) : Prop :=
  Calls Tryz.prog 149 #[.pointer d] w fun e w' => ∃ r, e = .returned (.int .i64 r) ∧ R r w'
theorem node_dec_one.Call.mono {d} {w : World} {R R' : Int → World → Prop} (h : node_dec_one.Call d w R) (hr : ∀ r w', R r w' → R' r w') : node_dec_one.Call d w R' :=
  Calls.mono h fun e w' he => by
    obtain ⟨r, h1, h2⟩ := he
    exact ⟨r, h1, hr r w' h2⟩
def node_dec_one.RV (R : Int → World → Prop) (v : Value) (w : World) : Prop := match v with
  | .int .i64 r => R r w
  | _ => False
theorem node_dec_one.RV_elim {R : Int → World → Prop} {v : Value} {w : World} (h : node_dec_one.RV R v w) : ∃ r, Ending.returned v = .returned (.int .i64 r) ∧ R r w := by
  unfold node_dec_one.RV at h
  split at h
  · exact ⟨_, rfl, h⟩
  · exact h.elim
/-- (*e2e/node.dec).num -/
def node_dec_num.Call (d : Option Addr) (w : World) (R : Int → World → Prop) : Prop :=
  Calls Tryz.prog 150 #[.pointer d] w fun e w' => ∃ r, e = .returned (.int .i64 r) ∧ R r w'
theorem node_dec_num.Call.mono {d} {w : World} {R R' : Int → World → Prop} (h : node_dec_num.Call d w R) (hr : ∀ r w', R r w' → R' r w') : node_dec_num.Call d w R' :=
  Calls.mono h fun e w' he => by
    obtain ⟨r, h1, h2⟩ := he
    exact ⟨r, h1, hr r w' h2⟩
def node_dec_num.RV (R : Int → World → Prop) (v : Value) (w : World) : Prop := match v with
  | .int .i64 r => R r w
  | _ => False
theorem node_dec_num.RV_elim {R : Int → World → Prop} {v : Value} {w : World} (h : node_dec_num.RV R v w) : ∃ r, Ending.returned v = .returned (.int .i64 r) ∧ R r w := by
  unfold node_dec_num.RV at h
  split at h
  · exact ⟨_, rfl, h⟩
  · exact h.elim
/-- (*e2e/node.dec).text -/
def node_dec_text.Call (d : Option Addr) (most : Int) (w : World) (R : ByteArray → World → Prop) : Prop :=
  Calls Tryz.prog 151 #[.pointer d, .int .i64 most] w fun e w' => ∃ r, e = .returned (.string r) ∧ R r w'
theorem node_dec_text.Call.mono {d most} {w : World} {R R' : ByteArray → World → Prop} (h : node_dec_text.Call d most w R) (hr : ∀ r w', R r w' → R' r w') : node_dec_text.Call d most w R' :=
  Calls.mono h fun e w' he => by
    obtain ⟨r, h1, h2⟩ := he
    exact ⟨r, h1, hr r w' h2⟩
def node_dec_text.RV (R : ByteArray → World → Prop) (v : Value) (w : World) : Prop := match v with
  | .string r => R r w
  | _ => False
theorem node_dec_text.RV_elim {R : ByteArray → World → Prop} {v : Value} {w : World} (h : node_dec_text.RV R v w) : ∃ r, Ending.returned v = .returned (.string r) ∧ R r w := by
  unfold node_dec_text.RV at h
  split at h
  · exact ⟨_, rfl, h⟩
  · exact h.elim
/-- e2e/api.MsgOK -/
def api_MsgOK.Call (m0_0 m0_1 m0_2 m0_3 m0_4 m0_5 m0_6 : Int) (m0_7 : Bool) (m0_8_b : Option Addr) (m0_8_l m0_8_c : Nat) (m0_9 : ByteArray) (w : World) (R : Bool → World → Prop) : Prop :=
  Calls Tryz.prog 152 #[.agg #[.int .i64 m0_0, .int .i64 m0_1, .int .i64 m0_2, .int .i64 m0_3, .int .i64 m0_4, .int .i64 m0_5, .int .i64 m0_6, .bool m0_7, .slice m0_8_b m0_8_l m0_8_c, .string m0_9]] w fun e w' => ∃ r, e = .returned (.bool r) ∧ R r w'
theorem api_MsgOK.Call.mono {m0_0 m0_1 m0_2 m0_3 m0_4 m0_5 m0_6 m0_7 m0_8_b m0_8_l m0_8_c m0_9} {w : World} {R R' : Bool → World → Prop} (h : api_MsgOK.Call m0_0 m0_1 m0_2 m0_3 m0_4 m0_5 m0_6 m0_7 m0_8_b m0_8_l m0_8_c m0_9 w R) (hr : ∀ r w', R r w' → R' r w') : api_MsgOK.Call m0_0 m0_1 m0_2 m0_3 m0_4 m0_5 m0_6 m0_7 m0_8_b m0_8_l m0_8_c m0_9 w R' :=
  Calls.mono h fun e w' he => by
    obtain ⟨r, h1, h2⟩ := he
    exact ⟨r, h1, hr r w' h2⟩
def api_MsgOK.RV (R : Bool → World → Prop) (v : Value) (w : World) : Prop := match v with
  | .bool r => R r w
  | _ => False
theorem api_MsgOK.RV_elim {R : Bool → World → Prop} {v : Value} {w : World} (h : api_MsgOK.RV R v w) : ∃ r, Ending.returned v = .returned (.bool r) ∧ R r w := by
  unfold api_MsgOK.RV at h
  split at h
  · exact ⟨_, rfl, h⟩
  · exact h.elim
/-- (*e2e/sync.Sync).voteAsked -/
def sync_Sync_voteAsked.Call (s : Option Addr) (m0_0 m0_1 m0_2 m0_3 m0_4 m0_5 m0_6 : Int) (m0_7 : Bool) (m0_8_b : Option Addr) (m0_8_l m0_8_c : Nat) (m0_9 : ByteArray) (w : World) (R : World → Prop) : Prop :=
  Calls Tryz.prog 153 #[.pointer s, .agg #[.int .i64 m0_0, .int .i64 m0_1, .int .i64 m0_2, .int .i64 m0_3, .int .i64 m0_4, .int .i64 m0_5, .int .i64 m0_6, .bool m0_7, .slice m0_8_b m0_8_l m0_8_c, .string m0_9]] w fun e w' => e = .returned (.tuple #[]) ∧ R w'
theorem sync_Sync_voteAsked.Call.mono {s m0_0 m0_1 m0_2 m0_3 m0_4 m0_5 m0_6 m0_7 m0_8_b m0_8_l m0_8_c m0_9} {w : World} {R R' : World → Prop} (h : sync_Sync_voteAsked.Call s m0_0 m0_1 m0_2 m0_3 m0_4 m0_5 m0_6 m0_7 m0_8_b m0_8_l m0_8_c m0_9 w R) (hr : ∀ w', R w' → R'  w') : sync_Sync_voteAsked.Call s m0_0 m0_1 m0_2 m0_3 m0_4 m0_5 m0_6 m0_7 m0_8_b m0_8_l m0_8_c m0_9 w R' :=
  Calls.mono h fun e w' he => by
    obtain ⟨h1, h2⟩ := he
    exact ⟨h1, hr  w' h2⟩
def sync_Sync_voteAsked.RV (R : World → Prop) (v : Value) (w : World) : Prop := match v with
  | .tuple ⟨[]⟩ => R w
  | _ => False
theorem sync_Sync_voteAsked.RV_elim {R : World → Prop} {v : Value} {w : World} (h : sync_Sync_voteAsked.RV R v w) : Ending.returned v = .returned (.tuple #[]) ∧ R w := by
  unfold sync_Sync_voteAsked.RV at h
  split at h
  · exact ⟨rfl, h⟩
  · exact h.elim
/-- (*e2e/sync.Sync).voteCame -/
def sync_Sync_voteCame.Call (s : Option Addr) (m0_0 m0_1 m0_2 m0_3 m0_4 m0_5 m0_6 : Int) (m0_7 : Bool) (m0_8_b : Option Addr) (m0_8_l m0_8_c : Nat) (m0_9 : ByteArray) (w : World) (R : World → Prop) : Prop :=
  Calls Tryz.prog 154 #[.pointer s, .agg #[.int .i64 m0_0, .int .i64 m0_1, .int .i64 m0_2, .int .i64 m0_3, .int .i64 m0_4, .int .i64 m0_5, .int .i64 m0_6, .bool m0_7, .slice m0_8_b m0_8_l m0_8_c, .string m0_9]] w fun e w' => e = .returned (.tuple #[]) ∧ R w'
theorem sync_Sync_voteCame.Call.mono {s m0_0 m0_1 m0_2 m0_3 m0_4 m0_5 m0_6 m0_7 m0_8_b m0_8_l m0_8_c m0_9} {w : World} {R R' : World → Prop} (h : sync_Sync_voteCame.Call s m0_0 m0_1 m0_2 m0_3 m0_4 m0_5 m0_6 m0_7 m0_8_b m0_8_l m0_8_c m0_9 w R) (hr : ∀ w', R w' → R'  w') : sync_Sync_voteCame.Call s m0_0 m0_1 m0_2 m0_3 m0_4 m0_5 m0_6 m0_7 m0_8_b m0_8_l m0_8_c m0_9 w R' :=
  Calls.mono h fun e w' he => by
    obtain ⟨h1, h2⟩ := he
    exact ⟨h1, hr  w' h2⟩
def sync_Sync_voteCame.RV (R : World → Prop) (v : Value) (w : World) : Prop := match v with
  | .tuple ⟨[]⟩ => R w
  | _ => False
theorem sync_Sync_voteCame.RV_elim {R : World → Prop} {v : Value} {w : World} (h : sync_Sync_voteCame.RV R v w) : Ending.returned v = .returned (.tuple #[]) ∧ R w := by
  unfold sync_Sync_voteCame.RV at h
  split at h
  · exact ⟨rfl, h⟩
  · exact h.elim
/-- (*e2e/sync.Sync).entriesCame -/
def sync_Sync_entriesCame.Call (s : Option Addr) (m0_0 m0_1 m0_2 m0_3 m0_4 m0_5 m0_6 : Int) (m0_7 : Bool) (m0_8_b : Option Addr) (m0_8_l m0_8_c : Nat) (m0_9 : ByteArray) (w : World) (R : World → Prop) : Prop :=
  Calls Tryz.prog 155 #[.pointer s, .agg #[.int .i64 m0_0, .int .i64 m0_1, .int .i64 m0_2, .int .i64 m0_3, .int .i64 m0_4, .int .i64 m0_5, .int .i64 m0_6, .bool m0_7, .slice m0_8_b m0_8_l m0_8_c, .string m0_9]] w fun e w' => e = .returned (.tuple #[]) ∧ R w'
theorem sync_Sync_entriesCame.Call.mono {s m0_0 m0_1 m0_2 m0_3 m0_4 m0_5 m0_6 m0_7 m0_8_b m0_8_l m0_8_c m0_9} {w : World} {R R' : World → Prop} (h : sync_Sync_entriesCame.Call s m0_0 m0_1 m0_2 m0_3 m0_4 m0_5 m0_6 m0_7 m0_8_b m0_8_l m0_8_c m0_9 w R) (hr : ∀ w', R w' → R'  w') : sync_Sync_entriesCame.Call s m0_0 m0_1 m0_2 m0_3 m0_4 m0_5 m0_6 m0_7 m0_8_b m0_8_l m0_8_c m0_9 w R' :=
  Calls.mono h fun e w' he => by
    obtain ⟨h1, h2⟩ := he
    exact ⟨h1, hr  w' h2⟩
def sync_Sync_entriesCame.RV (R : World → Prop) (v : Value) (w : World) : Prop := match v with
  | .tuple ⟨[]⟩ => R w
  | _ => False
theorem sync_Sync_entriesCame.RV_elim {R : World → Prop} {v : Value} {w : World} (h : sync_Sync_entriesCame.RV R v w) : Ending.returned v = .returned (.tuple #[]) ∧ R w := by
  unfold sync_Sync_entriesCame.RV at h
  split at h
  · exact ⟨rfl, h⟩
  · exact h.elim
/-- (*e2e/sync.Sync).snapCame -/
def sync_Sync_snapCame.Call (s : Option Addr) (m0_0 m0_1 m0_2 m0_3 m0_4 m0_5 m0_6 : Int) (m0_7 : Bool) (m0_8_b : Option Addr) (m0_8_l m0_8_c : Nat) (m0_9 : ByteArray) (w : World) (R : World → Prop) : Prop :=
  Calls Tryz.prog 156 #[.pointer s, .agg #[.int .i64 m0_0, .int .i64 m0_1, .int .i64 m0_2, .int .i64 m0_3, .int .i64 m0_4, .int .i64 m0_5, .int .i64 m0_6, .bool m0_7, .slice m0_8_b m0_8_l m0_8_c, .string m0_9]] w fun e w' => e = .returned (.tuple #[]) ∧ R w'
theorem sync_Sync_snapCame.Call.mono {s m0_0 m0_1 m0_2 m0_3 m0_4 m0_5 m0_6 m0_7 m0_8_b m0_8_l m0_8_c m0_9} {w : World} {R R' : World → Prop} (h : sync_Sync_snapCame.Call s m0_0 m0_1 m0_2 m0_3 m0_4 m0_5 m0_6 m0_7 m0_8_b m0_8_l m0_8_c m0_9 w R) (hr : ∀ w', R w' → R'  w') : sync_Sync_snapCame.Call s m0_0 m0_1 m0_2 m0_3 m0_4 m0_5 m0_6 m0_7 m0_8_b m0_8_l m0_8_c m0_9 w R' :=
  Calls.mono h fun e w' he => by
    obtain ⟨h1, h2⟩ := he
    exact ⟨h1, hr  w' h2⟩
def sync_Sync_snapCame.RV (R : World → Prop) (v : Value) (w : World) : Prop := match v with
  | .tuple ⟨[]⟩ => R w
  | _ => False
theorem sync_Sync_snapCame.RV_elim {R : World → Prop} {v : Value} {w : World} (h : sync_Sync_snapCame.RV R v w) : Ending.returned v = .returned (.tuple #[]) ∧ R w := by
  unfold sync_Sync_snapCame.RV at h
  split at h
  · exact ⟨rfl, h⟩
  · exact h.elim
/-- (*e2e/sync.Sync).ackCame -/
def sync_Sync_ackCame.Call (s : Option Addr) (m0_0 m0_1 m0_2 m0_3 m0_4 m0_5 m0_6 : Int) (m0_7 : Bool) (m0_8_b : Option Addr) (m0_8_l m0_8_c : Nat) (m0_9 : ByteArray) (w : World) (R : World → Prop) : Prop :=
  Calls Tryz.prog 157 #[.pointer s, .agg #[.int .i64 m0_0, .int .i64 m0_1, .int .i64 m0_2, .int .i64 m0_3, .int .i64 m0_4, .int .i64 m0_5, .int .i64 m0_6, .bool m0_7, .slice m0_8_b m0_8_l m0_8_c, .string m0_9]] w fun e w' => e = .returned (.tuple #[]) ∧ R w'
theorem sync_Sync_ackCame.Call.mono {s m0_0 m0_1 m0_2 m0_3 m0_4 m0_5 m0_6 m0_7 m0_8_b m0_8_l m0_8_c m0_9} {w : World} {R R' : World → Prop} (h : sync_Sync_ackCame.Call s m0_0 m0_1 m0_2 m0_3 m0_4 m0_5 m0_6 m0_7 m0_8_b m0_8_l m0_8_c m0_9 w R) (hr : ∀ w', R w' → R'  w') : sync_Sync_ackCame.Call s m0_0 m0_1 m0_2 m0_3 m0_4 m0_5 m0_6 m0_7 m0_8_b m0_8_l m0_8_c m0_9 w R' :=
  Calls.mono h fun e w' he => by
    obtain ⟨h1, h2⟩ := he
    exact ⟨h1, hr  w' h2⟩
def sync_Sync_ackCame.RV (R : World → Prop) (v : Value) (w : World) : Prop := match v with
  | .tuple ⟨[]⟩ => R w
  | _ => False
theorem sync_Sync_ackCame.RV_elim {R : World → Prop} {v : Value} {w : World} (h : sync_Sync_ackCame.RV R v w) : Ending.returned v = .returned (.tuple #[]) ∧ R w := by
  unfold sync_Sync_ackCame.RV at h
  split at h
  · exact ⟨rfl, h⟩
  · exact h.elim
/-- e2e/api.PutU64 -/
def api_PutU64.Call (b_b : Option Addr) (b_l b_c : Nat) (v_1 : Int) (w : World) (R : Option Addr → Nat → Nat → World → Prop) : Prop :=
  Calls Tryz.prog 158 #[.slice b_b b_l b_c, .int .i64 v_1] w fun e w' => ∃ r_b r_l r_c, e = .returned (.slice r_b r_l r_c) ∧ R r_b r_l r_c w'
theorem api_PutU64.Call.mono {b_b b_l b_c v_1} {w : World} {R R' : Option Addr → Nat → Nat → World → Prop} (h : api_PutU64.Call b_b b_l b_c v_1 w R) (hr : ∀ r_b r_l r_c w', R r_b r_l r_c w' → R' r_b r_l r_c w') : api_PutU64.Call b_b b_l b_c v_1 w R' :=
  Calls.mono h fun e w' he => by
    obtain ⟨r_b, r_l, r_c, h1, h2⟩ := he
    exact ⟨r_b, r_l, r_c, h1, hr r_b r_l r_c w' h2⟩
def api_PutU64.RV (R : Option Addr → Nat → Nat → World → Prop) (v : Value) (w : World) : Prop := match v with
  | .slice r_b r_l r_c => R r_b r_l r_c w
  | _ => False
theorem api_PutU64.RV_elim {R : Option Addr → Nat → Nat → World → Prop} {v : Value} {w : World} (h : api_PutU64.RV R v w) : ∃ r_b r_l r_c, Ending.returned v = .returned (.slice r_b r_l r_c) ∧ R r_b r_l r_c w := by
  unfold api_PutU64.RV at h
  split at h
  · exact ⟨_, _, _, rfl, h⟩
  · exact h.elim
/-- e2e/api.putStr -/
def api_putStr.Call (b_b : Option Addr) (b_l b_c : Nat) (s : ByteArray) (w : World) (R : Option Addr → Nat → Nat → World → Prop) : Prop :=
  Calls Tryz.prog 159 #[.slice b_b b_l b_c, .string s] w fun e w' => ∃ r_b r_l r_c, e = .returned (.slice r_b r_l r_c) ∧ R r_b r_l r_c w'
theorem api_putStr.Call.mono {b_b b_l b_c s} {w : World} {R R' : Option Addr → Nat → Nat → World → Prop} (h : api_putStr.Call b_b b_l b_c s w R) (hr : ∀ r_b r_l r_c w', R r_b r_l r_c w' → R' r_b r_l r_c w') : api_putStr.Call b_b b_l b_c s w R' :=
  Calls.mono h fun e w' he => by
    obtain ⟨r_b, r_l, r_c, h1, h2⟩ := he
    exact ⟨r_b, r_l, r_c, h1, hr r_b r_l r_c w' h2⟩
def api_putStr.RV (R : Option Addr → Nat → Nat → World → Prop) (v : Value) (w : World) : Prop := match v with
  | .slice r_b r_l r_c => R r_b r_l r_c w
  | _ => False
theorem api_putStr.RV_elim {R : Option Addr → Nat → Nat → World → Prop} {v : Value} {w : World} (h : api_putStr.RV R v w) : ∃ r_b r_l r_c, Ending.returned v = .returned (.slice r_b r_l r_c) ∧ R r_b r_l r_c w := by
  unfold api_putStr.RV at h
  split at h
  · exact ⟨_, _, _, rfl, h⟩
  · exact h.elim
/-- (*e2e/sync.Sync).grow -/
def sync_Sync_grow.Call (s : Option Addr) (e_0 : Int) (e_1 : ByteArray) (w : World) (R : Int → World → Prop) : Prop :=
  Calls Tryz.prog 160 #[.pointer s, .agg #[.int .i64 e_0, .string e_1]] w fun e w' => ∃ r, e = .returned (.int .i64 r) ∧ R r w'
theorem sync_Sync_grow.Call.mono {s e_0 e_1} {w : World} {R R' : Int → World → Prop} (h : sync_Sync_grow.Call s e_0 e_1 w R) (hr : ∀ r w', R r w' → R' r w') : sync_Sync_grow.Call s e_0 e_1 w R' :=
  Calls.mono h fun e w' he => by
    obtain ⟨r, h1, h2⟩ := he
    exact ⟨r, h1, hr r w' h2⟩
def sync_Sync_grow.RV (R : Int → World → Prop) (v : Value) (w : World) : Prop := match v with
  | .int .i64 r => R r w
  | _ => False
theorem sync_Sync_grow.RV_elim {R : Int → World → Prop} {v : Value} {w : World} (h : sync_Sync_grow.RV R v w) : ∃ r, Ending.returned v = .returned (.int .i64 r) ∧ R r w := by
  unfold sync_Sync_grow.RV at h
  split at h
  · exact ⟨_, rfl, h⟩
  · exact h.elim
/-- (*e2e/electm.Elect).Tick -/
def electm_Elect_Tick.Call (e_1 : Option Addr) (w : World) (R : Int → World → Prop) : Prop :=
  Calls Tryz.prog 161 #[.pointer e_1] w fun e w' => ∃ r, e = .returned (.int .i64 r) ∧ R r w'
theorem electm_Elect_Tick.Call.mono {e_1} {w : World} {R R' : Int → World → Prop} (h : electm_Elect_Tick.Call e_1 w R) (hr : ∀ r w', R r w' → R' r w') : electm_Elect_Tick.Call e_1 w R' :=
  Calls.mono h fun e w' he => by
    obtain ⟨r, h1, h2⟩ := he
    exact ⟨r, h1, hr r w' h2⟩
def electm_Elect_Tick.RV (R : Int → World → Prop) (v : Value) (w : World) : Prop := match v with
  | .int .i64 r => R r w
  | _ => False
theorem electm_Elect_Tick.RV_elim {R : Int → World → Prop} {v : Value} {w : World} (h : electm_Elect_Tick.RV R v w) : ∃ r, Ending.returned v = .returned (.int .i64 r) ∧ R r w := by
  unfold electm_Elect_Tick.RV at h
  split at h
  · exact ⟨_, rfl, h⟩
  · exact h.elim
/-- (*e2e/syncm.Sync).persist -/
def syncm_Sync_persist.Call (s : Option Addr) (w : World) (R : World → Prop) : Prop :=
  Calls Tryz.prog 162 #[.pointer s] w fun e w' => e = .returned (.tuple #[]) ∧ R w'
theorem syncm_Sync_persist.Call.mono {s} {w : World} {R R' : World → Prop} (h : syncm_Sync_persist.Call s w R) (hr : ∀ w', R w' → R'  w') : syncm_Sync_persist.Call s w R' :=
  Calls.mono h fun e w' he => by
    obtain ⟨h1, h2⟩ := he
    exact ⟨h1, hr  w' h2⟩
def syncm_Sync_persist.RV (R : World → Prop) (v : Value) (w : World) : Prop := match v with
  | .tuple ⟨[]⟩ => R w
  | _ => False
theorem syncm_Sync_persist.RV_elim {R : World → Prop} {v : Value} {w : World} (h : syncm_Sync_persist.RV R v w) : Ending.returned v = .returned (.tuple #[]) ∧ R w := by
  unfold syncm_Sync_persist.RV at h
  split at h
  · exact ⟨rfl, h⟩
  · exact h.elim
/-- (*e2e/syncm.Sync).sendAll -/
def syncm_Sync_sendAll.Call (s : Option Addr) (w : World) (R : Option Addr → Nat → Nat → World → Prop) : Prop :=
  Calls Tryz.prog 163 #[.pointer s] w fun e w' => ∃ r_b r_l r_c, e = .returned (.slice r_b r_l r_c) ∧ R r_b r_l r_c w'
theorem syncm_Sync_sendAll.Call.mono {s} {w : World} {R R' : Option Addr → Nat → Nat → World → Prop} (h : syncm_Sync_sendAll.Call s w R) (hr : ∀ r_b r_l r_c w', R r_b r_l r_c w' → R' r_b r_l r_c w') : syncm_Sync_sendAll.Call s w R' :=
  Calls.mono h fun e w' he => by
    obtain ⟨r_b, r_l, r_c, h1, h2⟩ := he
    exact ⟨r_b, r_l, r_c, h1, hr r_b r_l r_c w' h2⟩
def syncm_Sync_sendAll.RV (R : Option Addr → Nat → Nat → World → Prop) (v : Value) (w : World) : Prop := match v with
  | .slice r_b r_l r_c => R r_b r_l r_c w
  | _ => False
theorem syncm_Sync_sendAll.RV_elim {R : Option Addr → Nat → Nat → World → Prop} {v : Value} {w : World} (h : syncm_Sync_sendAll.RV R v w) : ∃ r_b r_l r_c, Ending.returned v = .returned (.slice r_b r_l r_c) ∧ R r_b r_l r_c w := by
  unfold syncm_Sync_sendAll.RV at h
  split at h
  · exact ⟨_, _, _, rfl, h⟩
  · exact h.elim
/-- (*e2e/electm.Elect).Term -/
def electm_Elect_Term.Call (e_1 : Option Addr) (w : World) (R : Int → World → Prop) : Prop :=
  Calls Tryz.prog 164 #[.pointer e_1] w fun e w' => ∃ r, e = .returned (.int .i64 r) ∧ R r w'
theorem electm_Elect_Term.Call.mono {e_1} {w : World} {R R' : Int → World → Prop} (h : electm_Elect_Term.Call e_1 w R) (hr : ∀ r w', R r w' → R' r w') : electm_Elect_Term.Call e_1 w R' :=
  Calls.mono h fun e w' he => by
    obtain ⟨r, h1, h2⟩ := he
    exact ⟨r, h1, hr r w' h2⟩
def electm_Elect_Term.RV (R : Int → World → Prop) (v : Value) (w : World) : Prop := match v with
  | .int .i64 r => R r w
  | _ => False
theorem electm_Elect_Term.RV_elim {R : Int → World → Prop} {v : Value} {w : World} (h : electm_Elect_Term.RV R v w) : ∃ r, Ending.returned v = .returned (.int .i64 r) ∧ R r w := by
  unfold electm_Elect_Term.RV at h
  split at h
  · exact ⟨_, rfl, h⟩
  · exact h.elim
/-- (*e2e/rlogm.Log).Last -/
def rlogm_Log_Last.Call (l : Option Addr) (w : World) (R : Int → World → Prop) : Prop :=
  Calls Tryz.prog 165 #[.pointer l] w fun e w' => ∃ r, e = .returned (.int .i64 r) ∧ R r w'
theorem rlogm_Log_Last.Call.mono {l} {w : World} {R R' : Int → World → Prop} (h : rlogm_Log_Last.Call l w R) (hr : ∀ r w', R r w' → R' r w') : rlogm_Log_Last.Call l w R' :=
  Calls.mono h fun e w' he => by
    obtain ⟨r, h1, h2⟩ := he
    exact ⟨r, h1, hr r w' h2⟩
def rlogm_Log_Last.RV (R : Int → World → Prop) (v : Value) (w : World) : Prop := match v with
  | .int .i64 r => R r w
  | _ => False
theorem rlogm_Log_Last.RV_elim {R : Int → World → Prop} {v : Value} {w : World} (h : rlogm_Log_Last.RV R v w) : ∃ r, Ending.returned v = .returned (.int .i64 r) ∧ R r w := by
  unfold rlogm_Log_Last.RV at h
  split at h
  · exact ⟨_, rfl, h⟩
  · exact h.elim
/-- (*e2e/rlogm.Log).TermAt -/
def rlogm_Log_TermAt.Call (l : Option Addr) (i : Int) (w : World) (R : Int → Int → World → Prop) : Prop :=
  Calls Tryz.prog 166 #[.pointer l, .int .i64 i] w fun e w' => ∃ r0 r1, e = .returned (.tuple #[.int .i64 r0, .int .i64 r1]) ∧ R r0 r1 w'
theorem rlogm_Log_TermAt.Call.mono {l i} {w : World} {R R' : Int → Int → World → Prop} (h : rlogm_Log_TermAt.Call l i w R) (hr : ∀ r0 r1 w', R r0 r1 w' → R' r0 r1 w') : rlogm_Log_TermAt.Call l i w R' :=
  Calls.mono h fun e w' he => by
    obtain ⟨r0, r1, h1, h2⟩ := he
    exact ⟨r0, r1, h1, hr r0 r1 w' h2⟩
def rlogm_Log_TermAt.RV (R : Int → Int → World → Prop) (v : Value) (w : World) : Prop := match v with
  | .tuple ⟨[.int .i64 r0, .int .i64 r1]⟩ => R r0 r1 w
  | _ => False
theorem rlogm_Log_TermAt.RV_elim {R : Int → Int → World → Prop} {v : Value} {w : World} (h : rlogm_Log_TermAt.RV R v w) : ∃ r0 r1, Ending.returned v = .returned (.tuple #[.int .i64 r0, .int .i64 r1]) ∧ R r0 r1 w := by
  unfold rlogm_Log_TermAt.RV at h
  split at h
  · exact ⟨_, _, rfl, h⟩
  · exact h.elim
/-- (*e2e/kvm.KV).Snapshot -/
def kvm_KV_Snapshot.Call (k : Option Addr) (w : World) (R : ByteArray → World → Prop) : Prop :=
  Calls Tryz.prog 167 #[.pointer k] w fun e w' => ∃ r, e = .returned (.string r) ∧ R r w'
theorem kvm_KV_Snapshot.Call.mono {k} {w : World} {R R' : ByteArray → World → Prop} (h : kvm_KV_Snapshot.Call k w R) (hr : ∀ r w', R r w' → R' r w') : kvm_KV_Snapshot.Call k w R' :=
  Calls.mono h fun e w' he => by
    obtain ⟨r, h1, h2⟩ := he
    exact ⟨r, h1, hr r w' h2⟩
def kvm_KV_Snapshot.RV (R : ByteArray → World → Prop) (v : Value) (w : World) : Prop := match v with
  | .string r => R r w
  | _ => False
theorem kvm_KV_Snapshot.RV_elim {R : ByteArray → World → Prop} {v : Value} {w : World} (h : kvm_KV_Snapshot.RV R v w) : ∃ r, Ending.returned v = .returned (.string r) ∧ R r w := by
  unfold kvm_KV_Snapshot.RV at h
  split at h
  · exact ⟨_, rfl, h⟩
  · exact h.elim
/-- (*e2e/syncm.Sync).Compact -/
def syncm_Sync_Compact.Call (s : Option Addr) (upTo : Int) (snap : ByteArray) (w : World) (R : Int → World → Prop) : Prop :=
  Calls Tryz.prog 168 #[.pointer s, .int .i64 upTo, .string snap] w fun e w' => ∃ r, e = .returned (.int .i64 r) ∧ R r w'
theorem syncm_Sync_Compact.Call.mono {s upTo snap} {w : World} {R R' : Int → World → Prop} (h : syncm_Sync_Compact.Call s upTo snap w R) (hr : ∀ r w', R r w' → R' r w') : syncm_Sync_Compact.Call s upTo snap w R' :=
  Calls.mono h fun e w' he => by
    obtain ⟨r, h1, h2⟩ := he
    exact ⟨r, h1, hr r w' h2⟩
def syncm_Sync_Compact.RV (R : Int → World → Prop) (v : Value) (w : World) : Prop := match v with
  | .int .i64 r => R r w
  | _ => False
theorem syncm_Sync_Compact.RV_elim {R : Int → World → Prop} {v : Value} {w : World} (h : syncm_Sync_Compact.RV R v w) : ∃ r, Ending.returned v = .returned (.int .i64 r) ∧ R r w := by
  unfold syncm_Sync_Compact.RV at h
  split at h
  · exact ⟨_, rfl, h⟩
  · exact h.elim
/-- (*e2e/syncm.Sync).At -/
def syncm_Sync_At.Call (s : Option Addr) (i : Int) (w : World) (R : Int → ByteArray → Int → World → Prop) : Prop :=
  Calls Tryz.prog 169 #[.pointer s, .int .i64 i] w fun e w' => ∃ r0_0 r0_1 r1, e = .returned (.tuple #[.agg #[.int .i64 r0_0, .string r0_1], .int .i64 r1]) ∧ R r0_0 r0_1 r1 w'
theorem syncm_Sync_At.Call.mono {s i} {w : World} {R R' : Int → ByteArray → Int → World → Prop} (h : syncm_Sync_At.Call s i w R) (hr : ∀ r0_0 r0_1 r1 w', R r0_0 r0_1 r1 w' → R' r0_0 r0_1 r1 w') : syncm_Sync_At.Call s i w R' :=
  Calls.mono h fun e w' he => by
    obtain ⟨r0_0, r0_1, r1, h1, h2⟩ := he
    exact ⟨r0_0, r0_1, r1, h1, hr r0_0 r0_1 r1 w' h2⟩
def syncm_Sync_At.RV (R : Int → ByteArray → Int → World → Prop) (v : Value) (w : World) : Prop := match v with
  | .tuple ⟨[.agg ⟨[.int .i64 r0_0, .string r0_1]⟩, .int .i64 r1]⟩ => R r0_0 r0_1 r1 w
  | _ => False
theorem syncm_Sync_At.RV_elim {R : Int → ByteArray → Int → World → Prop} {v : Value} {w : World} (h : syncm_Sync_At.RV R v w) : ∃ r0_0 r0_1 r1, Ending.returned v = .returned (.tuple #[.agg #[.int .i64 r0_0, .string r0_1], .int .i64 r1]) ∧ R r0_0 r0_1 r1 w := by
  unfold syncm_Sync_At.RV at h
  split at h
  · exact ⟨_, _, _, rfl, h⟩
  · exact h.elim
/-- (*e2e/kvm.KV).Apply -/
def kvm_KV_Apply.Call (k : Option Addr) (data : ByteArray) (w : World) (R : Int → ByteArray → World → Prop) : Prop :=
  Calls Tryz.prog 170 #[.pointer k, .string data] w fun e w' => ∃ r_0 r_1, e = .returned (.agg #[.int .i64 r_0, .string r_1]) ∧ R r_0 r_1 w'
theorem kvm_KV_Apply.Call.mono {k data} {w : World} {R R' : Int → ByteArray → World → Prop} (h : kvm_KV_Apply.Call k data w R) (hr : ∀ r_0 r_1 w', R r_0 r_1 w' → R' r_0 r_1 w') : kvm_KV_Apply.Call k data w R' :=
  Calls.mono h fun e w' he => by
    obtain ⟨r_0, r_1, h1, h2⟩ := he
    exact ⟨r_0, r_1, h1, hr r_0 r_1 w' h2⟩
def kvm_KV_Apply.RV (R : Int → ByteArray → World → Prop) (v : Value) (w : World) : Prop := match v with
  | .agg ⟨[.int .i64 r_0, .string r_1]⟩ => R r_0 r_1 w
  | _ => False
theorem kvm_KV_Apply.RV_elim {R : Int → ByteArray → World → Prop} {v : Value} {w : World} (h : kvm_KV_Apply.RV R v w) : ∃ r_0 r_1, Ending.returned v = .returned (.agg #[.int .i64 r_0, .string r_1]) ∧ R r_0 r_1 w := by
  unfold kvm_KV_Apply.RV at h
  split at h
  · exact ⟨_, _, rfl, h⟩
  · exact h.elim
/-- e2e/api.DecodeCmd -/
def api_DecodeCmd.Call (s : ByteArray) (w : World) (R : Int → Int → Int → ByteArray → ByteArray → ByteArray → Int → World → Prop) : Prop :=
  Calls Tryz.prog 171 #[.string s] w fun e w' => ∃ r0_0 r0_1 r0_2 r0_3 r0_4 r0_5 r1, e = .returned (.tuple #[.agg #[.int .i64 r0_0, .int .i64 r0_1, .int .i64 r0_2, .string r0_3, .string r0_4, .string r0_5], .int .i64 r1]) ∧ R r0_0 r0_1 r0_2 r0_3 r0_4 r0_5 r1 w'
theorem api_DecodeCmd.Call.mono {s} {w : World} {R R' : Int → Int → Int → ByteArray → ByteArray → ByteArray → Int → World → Prop} (h : api_DecodeCmd.Call s w R) (hr : ∀ r0_0 r0_1 r0_2 r0_3 r0_4 r0_5 r1 w', R r0_0 r0_1 r0_2 r0_3 r0_4 r0_5 r1 w' → R' r0_0 r0_1 r0_2 r0_3 r0_4 r0_5 r1 w') : api_DecodeCmd.Call s w R' :=
  Calls.mono h fun e w' he => by
    obtain ⟨r0_0, r0_1, r0_2, r0_3, r0_4, r0_5, r1, h1, h2⟩ := he
    exact ⟨r0_0, r0_1, r0_2, r0_3, r0_4, r0_5, r1, h1, hr r0_0 r0_1 r0_2 r0_3 r0_4 r0_5 r1 w' h2⟩
def api_DecodeCmd.RV (R : Int → Int → Int → ByteArray → ByteArray → ByteArray → Int → World → Prop) (v : Value) (w : World) : Prop := match v with
  | .tuple ⟨[.agg ⟨[.int .i64 r0_0, .int .i64 r0_1, .int .i64 r0_2, .string r0_3, .string r0_4, .string r0_5]⟩, .int .i64 r1]⟩ => R r0_0 r0_1 r0_2 r0_3 r0_4 r0_5 r1 w
  | _ => False
theorem api_DecodeCmd.RV_elim {R : Int → Int → Int → ByteArray → ByteArray → ByteArray → Int → World → Prop} {v : Value} {w : World} (h : api_DecodeCmd.RV R v w) : ∃ r0_0 r0_1 r0_2 r0_3 r0_4 r0_5 r1, Ending.returned v = .returned (.tuple #[.agg #[.int .i64 r0_0, .int .i64 r0_1, .int .i64 r0_2, .string r0_3, .string r0_4, .string r0_5], .int .i64 r1]) ∧ R r0_0 r0_1 r0_2 r0_3 r0_4 r0_5 r1 w := by
  unfold api_DecodeCmd.RV at h
  split at h
  · exact ⟨_, _, _, _, _, _, _, rfl, h⟩
  · exact h.elim
/-- e2e/api.Sum16 -/
def api_Sum16.Call (b_b : Option Addr) (b_l b_c : Nat) (w : World) (R : Int → World → Prop) : Prop :=
  Calls Tryz.prog 172 #[.slice b_b b_l b_c] w fun e w' => ∃ r, e = .returned (.int .i64 r) ∧ R r w'
theorem api_Sum16.Call.mono {b_b b_l b_c} {w : World} {R R' : Int → World → Prop} (h : api_Sum16.Call b_b b_l b_c w R) (hr : ∀ r w', R r w' → R' r w') : api_Sum16.Call b_b b_l b_c w R' :=
  Calls.mono h fun e w' he => by
    obtain ⟨r, h1, h2⟩ := he
    exact ⟨r, h1, hr r w' h2⟩
def api_Sum16.RV (R : Int → World → Prop) (v : Value) (w : World) : Prop := match v with
  | .int .i64 r => R r w
  | _ => False
theorem api_Sum16.RV_elim {R : Int → World → Prop} {v : Value} {w : World} (h : api_Sum16.RV R v w) : ∃ r, Ending.returned v = .returned (.int .i64 r) ∧ R r w := by
  unfold api_Sum16.RV at h
  split at h
  · exact ⟨_, rfl, h⟩
  · exact h.elim
/-- e2e/api.GetU64 -/
def api_GetU64.Call (b : ByteArray) (off : Int) (w : World) (R : Int → World → Prop) : Prop :=
  Calls Tryz.prog 173 #[.string b, .int .i64 off] w fun e w' => ∃ r, e = .returned (.int .i64 r) ∧ R r w'
theorem api_GetU64.Call.mono {b off} {w : World} {R R' : Int → World → Prop} (h : api_GetU64.Call b off w R) (hr : ∀ r w', R r w' → R' r w') : api_GetU64.Call b off w R' :=
  Calls.mono h fun e w' he => by
    obtain ⟨r, h1, h2⟩ := he
    exact ⟨r, h1, hr r w' h2⟩
def api_GetU64.RV (R : Int → World → Prop) (v : Value) (w : World) : Prop := match v with
  | .int .i64 r => R r w
  | _ => False
theorem api_GetU64.RV_elim {R : Int → World → Prop} {v : Value} {w : World} (h : api_GetU64.RV R v w) : ∃ r, Ending.returned v = .returned (.int .i64 r) ∧ R r w := by
  unfold api_GetU64.RV at h
  split at h
  · exact ⟨_, rfl, h⟩
  · exact h.elim
/-- (*e2e/electm.Elect).Vote -/
def electm_Elect_Vote.Call (e_1 : Option Addr) (w : World) (R : Int → World → Prop) : Prop :=
  Calls Tryz.prog 174 #[.pointer e_1] w fun e w' => ∃ r, e = .returned (.int .i64 r) ∧ R r w'
theorem electm_Elect_Vote.Call.mono {e_1} {w : World} {R R' : Int → World → Prop} (h : electm_Elect_Vote.Call e_1 w R) (hr : ∀ r w', R r w' → R' r w') : electm_Elect_Vote.Call e_1 w R' :=
  Calls.mono h fun e w' he => by
    obtain ⟨r, h1, h2⟩ := he
    exact ⟨r, h1, hr r w' h2⟩
def electm_Elect_Vote.RV (R : Int → World → Prop) (v : Value) (w : World) : Prop := match v with
  | .int .i64 r => R r w
  | _ => False
theorem electm_Elect_Vote.RV_elim {R : Int → World → Prop} {v : Value} {w : World} (h : electm_Elect_Vote.RV R v w) : ∃ r, Ending.returned v = .returned (.int .i64 r) ∧ R r w := by
  unfold electm_Elect_Vote.RV at h
  split at h
  · exact ⟨_, rfl, h⟩
  · exact h.elim
/-- (*e2e/electm.Elect).Role -/
def electm_Elect_Role.Call (e_1 : Option Addr) (w : World) (R : Int → World → Prop) : Prop :=
  Calls Tryz.prog 175 #[.pointer e_1] w fun e w' => ∃ r, e = .returned (.int .i64 r) ∧ R r w'
theorem electm_Elect_Role.Call.mono {e_1} {w : World} {R R' : Int → World → Prop} (h : electm_Elect_Role.Call e_1 w R) (hr : ∀ r w', R r w' → R' r w') : electm_Elect_Role.Call e_1 w R' :=
  Calls.mono h fun e w' he => by
    obtain ⟨r, h1, h2⟩ := he
    exact ⟨r, h1, hr r w' h2⟩
def electm_Elect_Role.RV (R : Int → World → Prop) (v : Value) (w : World) : Prop := match v with
  | .int .i64 r => R r w
  | _ => False
theorem electm_Elect_Role.RV_elim {R : Int → World → Prop} {v : Value} {w : World} (h : electm_Elect_Role.RV R v w) : ∃ r, Ending.returned v = .returned (.int .i64 r) ∧ R r w := by
  unfold electm_Elect_Role.RV at h
  split at h
  · exact ⟨_, rfl, h⟩
  · exact h.elim
/-- (*e2e/electm.Elect).Leader -/
def electm_Elect_Leader.Call (e_1 : Option Addr) (w : World) (R : Int → World → Prop) : Prop :=
  Calls Tryz.prog 176 #[.pointer e_1] w fun e w' => ∃ r, e = .returned (.int .i64 r) ∧ R r w'
theorem electm_Elect_Leader.Call.mono {e_1} {w : World} {R R' : Int → World → Prop} (h : electm_Elect_Leader.Call e_1 w R) (hr : ∀ r w', R r w' → R' r w') : electm_Elect_Leader.Call e_1 w R' :=
  Calls.mono h fun e w' he => by
    obtain ⟨r, h1, h2⟩ := he
    exact ⟨r, h1, hr r w' h2⟩
def electm_Elect_Leader.RV (R : Int → World → Prop) (v : Value) (w : World) : Prop := match v with
  | .int .i64 r => R r w
  | _ => False
theorem electm_Elect_Leader.RV_elim {R : Int → World → Prop} {v : Value} {w : World} (h : electm_Elect_Leader.RV R v w) : ∃ r, Ending.returned v = .returned (.int .i64 r) ∧ R r w := by
  unfold electm_Elect_Leader.RV at h
  split at h
  · exact ⟨_, rfl, h⟩
  · exact h.elim
/-- (*e2e/electm.Elect).Clock -/
def electm_Elect_Clock.Call (e_1 : Option Addr) (w : World) (R : Int → World → Prop) : Prop :=
  Calls Tryz.prog 177 #[.pointer e_1] w fun e w' => ∃ r, e = .returned (.int .i64 r) ∧ R r w'
theorem electm_Elect_Clock.Call.mono {e_1} {w : World} {R R' : Int → World → Prop} (h : electm_Elect_Clock.Call e_1 w R) (hr : ∀ r w', R r w' → R' r w') : electm_Elect_Clock.Call e_1 w R' :=
  Calls.mono h fun e w' he => by
    obtain ⟨r, h1, h2⟩ := he
    exact ⟨r, h1, hr r w' h2⟩
def electm_Elect_Clock.RV (R : Int → World → Prop) (v : Value) (w : World) : Prop := match v with
  | .int .i64 r => R r w
  | _ => False
theorem electm_Elect_Clock.RV_elim {R : Int → World → Prop} {v : Value} {w : World} (h : electm_Elect_Clock.RV R v w) : ∃ r, Ending.returned v = .returned (.int .i64 r) ∧ R r w := by
  unfold electm_Elect_Clock.RV at h
  split at h
  · exact ⟨_, rfl, h⟩
  · exact h.elim
/-- (*e2e/electm.Elect).Got -/
def electm_Elect_Got.Call (e_1 : Option Addr) (p : Int) (w : World) (R : Bool → World → Prop) : Prop :=
  Calls Tryz.prog 178 #[.pointer e_1, .int .i64 p] w fun e w' => ∃ r, e = .returned (.bool r) ∧ R r w'
theorem electm_Elect_Got.Call.mono {e_1 p} {w : World} {R R' : Bool → World → Prop} (h : electm_Elect_Got.Call e_1 p w R) (hr : ∀ r w', R r w' → R' r w') : electm_Elect_Got.Call e_1 p w R' :=
  Calls.mono h fun e w' he => by
    obtain ⟨r, h1, h2⟩ := he
    exact ⟨r, h1, hr r w' h2⟩
def electm_Elect_Got.RV (R : Bool → World → Prop) (v : Value) (w : World) : Prop := match v with
  | .bool r => R r w
  | _ => False
theorem electm_Elect_Got.RV_elim {R : Bool → World → Prop} {v : Value} {w : World} (h : electm_Elect_Got.RV R v w) : ∃ r, Ending.returned v = .returned (.bool r) ∧ R r w := by
  unfold electm_Elect_Got.RV at h
  split at h
  · exact ⟨_, rfl, h⟩
  · exact h.elim
/-- (*e2e/rlogm.Log).BaseTerm -/
def rlogm_Log_BaseTerm.Call (l : Option Addr) (w : World) (R : Int → World → Prop) : Prop :=
  Calls Tryz.prog 179 #[.pointer l] w fun e w' => ∃ r, e = .returned (.int .i64 r) ∧ R r w'
theorem rlogm_Log_BaseTerm.Call.mono {l} {w : World} {R R' : Int → World → Prop} (h : rlogm_Log_BaseTerm.Call l w R) (hr : ∀ r w', R r w' → R' r w') : rlogm_Log_BaseTerm.Call l w R' :=
  Calls.mono h fun e w' he => by
    obtain ⟨r, h1, h2⟩ := he
    exact ⟨r, h1, hr r w' h2⟩
def rlogm_Log_BaseTerm.RV (R : Int → World → Prop) (v : Value) (w : World) : Prop := match v with
  | .int .i64 r => R r w
  | _ => False
theorem rlogm_Log_BaseTerm.RV_elim {R : Int → World → Prop} {v : Value} {w : World} (h : rlogm_Log_BaseTerm.RV R v w) : ∃ r, Ending.returned v = .returned (.int .i64 r) ∧ R r w := by
  unfold rlogm_Log_BaseTerm.RV at h
  split at h
  · exact ⟨_, rfl, h⟩
  · exact h.elim
/-- (*e2e/rlogm.Log).Snap -/
def rlogm_Log_Snap.Call (l : Option Addr) (w : World) (R : ByteArray → World → Prop) : Prop :=
  Calls Tryz.prog 180 #[.pointer l] w fun e w' => ∃ r, e = .returned (.string r) ∧ R r w'
theorem rlogm_Log_Snap.Call.mono {l} {w : World} {R R' : ByteArray → World → Prop} (h : rlogm_Log_Snap.Call l w R) (hr : ∀ r w', R r w' → R' r w') : rlogm_Log_Snap.Call l w R' :=
  Calls.mono h fun e w' he => by
    obtain ⟨r, h1, h2⟩ := he
    exact ⟨r, h1, hr r w' h2⟩
def rlogm_Log_Snap.RV (R : ByteArray → World → Prop) (v : Value) (w : World) : Prop := match v with
  | .string r => R r w
  | _ => False
theorem rlogm_Log_Snap.RV_elim {R : ByteArray → World → Prop} {v : Value} {w : World} (h : rlogm_Log_Snap.RV R v w) : ∃ r, Ending.returned v = .returned (.string r) ∧ R r w := by
  unfold rlogm_Log_Snap.RV at h
  split at h
  · exact ⟨_, rfl, h⟩
  · exact h.elim
/-- (*e2e/electm.Elect).AskedVote -/
def electm_Elect_AskedVote.Call (e_1 : Option Addr) (from0 term : Int) (upToDate : Bool) (w : World) (R : Bool → World → Prop) : Prop :=
  Calls Tryz.prog 181 #[.pointer e_1, .int .i64 from0, .int .i64 term, .bool upToDate] w fun e w' => ∃ r, e = .returned (.bool r) ∧ R r w'
theorem electm_Elect_AskedVote.Call.mono {e_1 from0 term upToDate} {w : World} {R R' : Bool → World → Prop} (h : electm_Elect_AskedVote.Call e_1 from0 term upToDate w R) (hr : ∀ r w', R r w' → R' r w') : electm_Elect_AskedVote.Call e_1 from0 term upToDate w R' :=
  Calls.mono h fun e w' he => by
    obtain ⟨r, h1, h2⟩ := he
    exact ⟨r, h1, hr r w' h2⟩
def electm_Elect_AskedVote.RV (R : Bool → World → Prop) (v : Value) (w : World) : Prop := match v with
  | .bool r => R r w
  | _ => False
theorem electm_Elect_AskedVote.RV_elim {R : Bool → World → Prop} {v : Value} {w : World} (h : electm_Elect_AskedVote.RV R v w) : ∃ r, Ending.returned v = .returned (.bool r) ∧ R r w := by
  unfold electm_Elect_AskedVote.RV at h
  split at h
  · exact ⟨_, rfl, h⟩
  · exact h.elim
/-- (*e2e/electm.Elect).GotVote -/
def electm_Elect_GotVote.Call (e_1 : Option Addr) (from0 term : Int) (granted : Bool) (w : World) (R : Bool → World → Prop) : Prop :=
  Calls Tryz.prog 182 #[.pointer e_1, .int .i64 from0, .int .i64 term, .bool granted] w fun e w' => ∃ r, e = .returned (.bool r) ∧ R r w'
theorem electm_Elect_GotVote.Call.mono {e_1 from0 term granted} {w : World} {R R' : Bool → World → Prop} (h : electm_Elect_GotVote.Call e_1 from0 term granted w R) (hr : ∀ r w', R r w' → R' r w') : electm_Elect_GotVote.Call e_1 from0 term granted w R' :=
  Calls.mono h fun e w' he => by
    obtain ⟨r, h1, h2⟩ := he
    exact ⟨r, h1, hr r w' h2⟩
def electm_Elect_GotVote.RV (R : Bool → World → Prop) (v : Value) (w : World) : Prop := match v with
  | .bool r => R r w
  | _ => False
theorem electm_Elect_GotVote.RV_elim {R : Bool → World → Prop} {v : Value} {w : World} (h : electm_Elect_GotVote.RV R v w) : ∃ r, Ending.returned v = .returned (.bool r) ∧ R r w := by
  unfold electm_Elect_GotVote.RV at h
  split at h
  · exact ⟨_, rfl, h⟩
  · exact h.elim
/-- (*e2e/rlogm.Log).Append -/
def rlogm_Log_Append.Call (l : Option Addr) (e_0 : Int) (e_1 : ByteArray) (w : World) (R : Int → World → Prop) : Prop :=
  Calls Tryz.prog 183 #[.pointer l, .agg #[.int .i64 e_0, .string e_1]] w fun e w' => ∃ r, e = .returned (.int .i64 r) ∧ R r w'
theorem rlogm_Log_Append.Call.mono {l e_0 e_1} {w : World} {R R' : Int → World → Prop} (h : rlogm_Log_Append.Call l e_0 e_1 w R) (hr : ∀ r w', R r w' → R' r w') : rlogm_Log_Append.Call l e_0 e_1 w R' :=
  Calls.mono h fun e w' he => by
    obtain ⟨r, h1, h2⟩ := he
    exact ⟨r, h1, hr r w' h2⟩
def rlogm_Log_Append.RV (R : Int → World → Prop) (v : Value) (w : World) : Prop := match v with
  | .int .i64 r => R r w
  | _ => False
theorem rlogm_Log_Append.RV_elim {R : Int → World → Prop} {v : Value} {w : World} (h : rlogm_Log_Append.RV R v w) : ∃ r, Ending.returned v = .returned (.int .i64 r) ∧ R r w := by
  unfold rlogm_Log_Append.RV at h
  split at h
  · exact ⟨_, rfl, h⟩
  · exact h.elim
/-- (*e2e/electm.Elect).Heard -/
def electm_Elect_Heard.Call (e_1 : Option Addr) (from0 term : Int) (w : World) (R : Bool → World → Prop) : Prop :=
  Calls Tryz.prog 184 #[.pointer e_1, .int .i64 from0, .int .i64 term] w fun e w' => ∃ r, e = .returned (.bool r) ∧ R r w'
theorem electm_Elect_Heard.Call.mono {e_1 from0 term} {w : World} {R R' : Bool → World → Prop} (h : electm_Elect_Heard.Call e_1 from0 term w R) (hr : ∀ r w', R r w' → R' r w') : electm_Elect_Heard.Call e_1 from0 term w R' :=
  Calls.mono h fun e w' he => by
    obtain ⟨r, h1, h2⟩ := he
    exact ⟨r, h1, hr r w' h2⟩
def electm_Elect_Heard.RV (R : Bool → World → Prop) (v : Value) (w : World) : Prop := match v with
  | .bool r => R r w
  | _ => False
theorem electm_Elect_Heard.RV_elim {R : Bool → World → Prop} {v : Value} {w : World} (h : electm_Elect_Heard.RV R v w) : ∃ r, Ending.returned v = .returned (.bool r) ∧ R r w := by
  unfold electm_Elect_Heard.RV at h
  split at h
  · exact ⟨_, rfl, h⟩
  · exact h.elim
/-- (*e2e/syncm.Sync).accept -/
def syncm_Sync_accept.Call (s : Option Addr) (m0_0 m0_1 m0_2 m0_3 m0_4 m0_5 m0_6 : Int) (m0_7 : Bool) (m0_8_b : Option Addr) (m0_8_l m0_8_c : Nat) (m0_9 : ByteArray) (w : World) (R : Bool → Int → World → Prop) : Prop :=
  Calls Tryz.prog 185 #[.pointer s, .agg #[.int .i64 m0_0, .int .i64 m0_1, .int .i64 m0_2, .int .i64 m0_3, .int .i64 m0_4, .int .i64 m0_5, .int .i64 m0_6, .bool m0_7, .slice m0_8_b m0_8_l m0_8_c, .string m0_9]] w fun e w' => ∃ r0 r1, e = .returned (.tuple #[.bool r0, .int .i64 r1]) ∧ R r0 r1 w'
theorem syncm_Sync_accept.Call.mono {s m0_0 m0_1 m0_2 m0_3 m0_4 m0_5 m0_6 m0_7 m0_8_b m0_8_l m0_8_c m0_9} {w : World} {R R' : Bool → Int → World → Prop} (h : syncm_Sync_accept.Call s m0_0 m0_1 m0_2 m0_3 m0_4 m0_5 m0_6 m0_7 m0_8_b m0_8_l m0_8_c m0_9 w R) (hr : ∀ r0 r1 w', R r0 r1 w' → R' r0 r1 w') : syncm_Sync_accept.Call s m0_0 m0_1 m0_2 m0_3 m0_4 m0_5 m0_6 m0_7 m0_8_b m0_8_l m0_8_c m0_9 w R' :=
  Calls.mono h fun e w' he => by
    obtain ⟨r0, r1, h1, h2⟩ := he
    exact ⟨r0, r1, h1, hr r0 r1 w' h2⟩
def syncm_Sync_accept.RV (R : Bool → Int → World → Prop) (v : Value) (w : World) : Prop := match v with
  | .tuple ⟨[.bool r0, .int .i64 r1]⟩ => R r0 r1 w
  | _ => False
theorem syncm_Sync_accept.RV_elim {R : Bool → Int → World → Prop} {v : Value} {w : World} (h : syncm_Sync_accept.RV R v w) : ∃ r0 r1, Ending.returned v = .returned (.tuple #[.bool r0, .int .i64 r1]) ∧ R r0 r1 w := by
  unfold syncm_Sync_accept.RV at h
  split at h
  · exact ⟨_, _, rfl, h⟩
  · exact h.elim
/-- (*e2e/rlogm.Log).Install -/
def rlogm_Log_Install.Call (l : Option Addr) (idx term : Int) (snap : ByteArray) (w : World) (R : Int → World → Prop) : Prop :=
  Calls Tryz.prog 186 #[.pointer l, .int .i64 idx, .int .i64 term, .string snap] w fun e w' => ∃ r, e = .returned (.int .i64 r) ∧ R r w'
theorem rlogm_Log_Install.Call.mono {l idx term snap} {w : World} {R R' : Int → World → Prop} (h : rlogm_Log_Install.Call l idx term snap w R) (hr : ∀ r w', R r w' → R' r w') : rlogm_Log_Install.Call l idx term snap w R' :=
  Calls.mono h fun e w' he => by
    obtain ⟨r, h1, h2⟩ := he
    exact ⟨r, h1, hr r w' h2⟩
def rlogm_Log_Install.RV (R : Int → World → Prop) (v : Value) (w : World) : Prop := match v with
  | .int .i64 r => R r w
  | _ => False
theorem rlogm_Log_Install.RV_elim {R : Int → World → Prop} {v : Value} {w : World} (h : rlogm_Log_Install.RV R v w) : ∃ r, Ending.returned v = .returned (.int .i64 r) ∧ R r w := by
  unfold rlogm_Log_Install.RV at h
  split at h
  · exact ⟨_, rfl, h⟩
  · exact h.elim
/-- (*e2e/electm.Elect).See -/
def electm_Elect_See.Call (e_1 : Option Addr) (term : Int) (w : World) (R : Bool → World → Prop) : Prop :=
  Calls Tryz.prog 187 #[.pointer e_1, .int .i64 term] w fun e w' => ∃ r, e = .returned (.bool r) ∧ R r w'
theorem electm_Elect_See.Call.mono {e_1 term} {w : World} {R R' : Bool → World → Prop} (h : electm_Elect_See.Call e_1 term w R) (hr : ∀ r w', R r w' → R' r w') : electm_Elect_See.Call e_1 term w R' :=
  Calls.mono h fun e w' he => by
    obtain ⟨r, h1, h2⟩ := he
    exact ⟨r, h1, hr r w' h2⟩
def electm_Elect_See.RV (R : Bool → World → Prop) (v : Value) (w : World) : Prop := match v with
  | .bool r => R r w
  | _ => False
theorem electm_Elect_See.RV_elim {R : Bool → World → Prop} {v : Value} {w : World} (h : electm_Elect_See.RV R v w) : ∃ r, Ending.returned v = .returned (.bool r) ∧ R r w := by
  unfold electm_Elect_See.RV at h
  split at h
  · exact ⟨_, rfl, h⟩
  · exact h.elim
/-- (*e2e/syncm.Sync).advance -/
def syncm_Sync_advance.Call (s : Option Addr) (w : World) (R : World → Prop) : Prop :=
  Calls Tryz.prog 188 #[.pointer s] w fun e w' => e = .returned (.tuple #[]) ∧ R w'
theorem syncm_Sync_advance.Call.mono {s} {w : World} {R R' : World → Prop} (h : syncm_Sync_advance.Call s w R) (hr : ∀ w', R w' → R'  w') : syncm_Sync_advance.Call s w R' :=
  Calls.mono h fun e w' he => by
    obtain ⟨h1, h2⟩ := he
    exact ⟨h1, hr  w' h2⟩
def syncm_Sync_advance.RV (R : World → Prop) (v : Value) (w : World) : Prop := match v with
  | .tuple ⟨[]⟩ => R w
  | _ => False
theorem syncm_Sync_advance.RV_elim {R : World → Prop} {v : Value} {w : World} (h : syncm_Sync_advance.RV R v w) : Ending.returned v = .returned (.tuple #[]) ∧ R w := by
  unfold syncm_Sync_advance.RV at h
  split at h
  · exact ⟨rfl, h⟩
  · exact h.elim
/-- (*e2e/syncm.Sync).send -/
def syncm_Sync_send.Call (s : Option Addr) (p : Int) (w : World) (R : Int → Int → Int → Int → Int → Int → Int → Bool → Option Addr → Nat → Nat → ByteArray → World → Prop) : Prop :=
  Calls Tryz.prog 189 #[.pointer s, .int .i64 p] w fun e w' => ∃ r_0 r_1 r_2 r_3 r_4 r_5 r_6 r_7 r_8_b r_8_l r_8_c r_9, e = .returned (.agg #[.int .i64 r_0, .int .i64 r_1, .int .i64 r_2, .int .i64 r_3, .int .i64 r_4, .int .i64 r_5, .int .i64 r_6, .bool r_7, .slice r_8_b r_8_l r_8_c, .string r_9]) ∧ R r_0 r_1 r_2 r_3 r_4 r_5 r_6 r_7 r_8_b r_8_l r_8_c r_9 w'
theorem syncm_Sync_send.Call.mono {s p} {w : World} {R R' : Int → Int → Int → Int → Int → Int → Int → Bool → Option Addr → Nat → Nat → ByteArray → World → Prop} (h : syncm_Sync_send.Call s p w R) (hr : ∀ r_0 r_1 r_2 r_3 r_4 r_5 r_6 r_7 r_8_b r_8_l r_8_c r_9 w', R r_0 r_1 r_2 r_3 r_4 r_5 r_6 r_7 r_8_b r_8_l r_8_c r_9 w' → R' r_0 r_1 r_2 r_3 r_4 r_5 r_6 r_7 r_8_b r_8_l r_8_c r_9 w') : syncm_Sync_send.Call s p w R' :=
  Calls.mono h fun e w' he => by
    obtain ⟨r_0, r_1, r_2, r_3, r_4, r_5, r_6, r_7, r_8_b, r_8_l, r_8_c, r_9, h1, h2⟩ := he
    exact ⟨r_0, r_1, r_2, r_3, r_4, r_5, r_6, r_7, r_8_b, r_8_l, r_8_c, r_9, h1, hr r_0 r_1 r_2 r_3 r_4 r_5 r_6 r_7 r_8_b r_8_l r_8_c r_9 w' h2⟩
def syncm_Sync_send.RV (R : Int → Int → Int → Int → Int → Int → Int → Bool → Option Addr → Nat → Nat → ByteArray → World → Prop) (v : Value) (w : World) : Prop := match v with
  | .agg ⟨[.int .i64 r_0, .int .i64 r_1, .int .i64 r_2, .int .i64 r_3, .int .i64 r_4, .int .i64 r_5, .int .i64 r_6, .bool r_7, .slice r_8_b r_8_l r_8_c, .string r_9]⟩ => R r_0 r_1 r_2 r_3 r_4 r_5 r_6 r_7 r_8_b r_8_l r_8_c r_9 w
  | _ => False
theorem syncm_Sync_send.RV_elim {R : Int → Int → Int → Int → Int → Int → Int → Bool → Option Addr → Nat → Nat → ByteArray → World → Prop} {v : Value} {w : World} (h : syncm_Sync_send.RV R v w) : ∃ r_0 r_1 r_2 r_3 r_4 r_5 r_6 r_7 r_8_b r_8_l r_8_c r_9, Ending.returned v = .returned (.agg #[.int .i64 r_0, .int .i64 r_1, .int .i64 r_2, .int .i64 r_3, .int .i64 r_4, .int .i64 r_5, .int .i64 r_6, .bool r_7, .slice r_8_b r_8_l r_8_c, .string r_9]) ∧ R r_0 r_1 r_2 r_3 r_4 r_5 r_6 r_7 r_8_b r_8_l r_8_c r_9 w := by
  unfold syncm_Sync_send.RV at h
  split at h
  · exact ⟨_, _, _, _, _, _, _, _, _, _, _, _, rfl, h⟩
  · exact h.elim
/-- (*e2e/sync.Sync).At -/
def sync_Sync_At.Call (s : Option Addr) (i : Int) (w : World) (R : Int → ByteArray → Int → World → Prop) : Prop :=
  Calls Tryz.prog 190 #[.pointer s, .int .i64 i] w fun e w' => ∃ r0_0 r0_1 r1, e = .returned (.tuple #[.agg #[.int .i64 r0_0, .string r0_1], .int .i64 r1]) ∧ R r0_0 r0_1 r1 w'
theorem sync_Sync_At.Call.mono {s i} {w : World} {R R' : Int → ByteArray → Int → World → Prop} (h : sync_Sync_At.Call s i w R) (hr : ∀ r0_0 r0_1 r1 w', R r0_0 r0_1 r1 w' → R' r0_0 r0_1 r1 w') : sync_Sync_At.Call s i w R' :=
  Calls.mono h fun e w' he => by
    obtain ⟨r0_0, r0_1, r1, h1, h2⟩ := he
    exact ⟨r0_0, r0_1, r1, h1, hr r0_0 r0_1 r1 w' h2⟩
def sync_Sync_At.RV (R : Int → ByteArray → Int → World → Prop) (v : Value) (w : World) : Prop := match v with
  | .tuple ⟨[.agg ⟨[.int .i64 r0_0, .string r0_1]⟩, .int .i64 r1]⟩ => R r0_0 r0_1 r1 w
  | _ => False
theorem sync_Sync_At.RV_elim {R : Int → ByteArray → Int → World → Prop} {v : Value} {w : World} (h : sync_Sync_At.RV R v w) : ∃ r0_0 r0_1 r1, Ending.returned v = .returned (.tuple #[.agg #[.int .i64 r0_0, .string r0_1], .int .i64 r1]) ∧ R r0_0 r0_1 r1 w := by
  unfold sync_Sync_At.RV at h
  split at h
  · exact ⟨_, _, _, rfl, h⟩
  · exact h.elim
/-- (*e2e/sync.Sync).TermAt -/
def sync_Sync_TermAt.Call (s : Option Addr) (i : Int) (w : World) (R : Int → Int → World → Prop) : Prop :=
  Calls Tryz.prog 191 #[.pointer s, .int .i64 i] w fun e w' => ∃ r0 r1, e = .returned (.tuple #[.int .i64 r0, .int .i64 r1]) ∧ R r0 r1 w'
theorem sync_Sync_TermAt.Call.mono {s i} {w : World} {R R' : Int → Int → World → Prop} (h : sync_Sync_TermAt.Call s i w R) (hr : ∀ r0 r1 w', R r0 r1 w' → R' r0 r1 w') : sync_Sync_TermAt.Call s i w R' :=
  Calls.mono h fun e w' he => by
    obtain ⟨r0, r1, h1, h2⟩ := he
    exact ⟨r0, r1, h1, hr r0 r1 w' h2⟩
def sync_Sync_TermAt.RV (R : Int → Int → World → Prop) (v : Value) (w : World) : Prop := match v with
  | .tuple ⟨[.int .i64 r0, .int .i64 r1]⟩ => R r0 r1 w
  | _ => False
theorem sync_Sync_TermAt.RV_elim {R : Int → Int → World → Prop} {v : Value} {w : World} (h : sync_Sync_TermAt.RV R v w) : ∃ r0 r1, Ending.returned v = .returned (.tuple #[.int .i64 r0, .int .i64 r1]) ∧ R r0 r1 w := by
  unfold sync_Sync_TermAt.RV at h
  split at h
  · exact ⟨_, _, rfl, h⟩
  · exact h.elim
/-- (*e2e/syncm.Sync).TermAt -/
def syncm_Sync_TermAt.Call (s : Option Addr) (i : Int) (w : World) (R : Int → Int → World → Prop) : Prop :=
  Calls Tryz.prog 192 #[.pointer s, .int .i64 i] w fun e w' => ∃ r0 r1, e = .returned (.tuple #[.int .i64 r0, .int .i64 r1]) ∧ R r0 r1 w'
theorem syncm_Sync_TermAt.Call.mono {s i} {w : World} {R R' : Int → Int → World → Prop} (h : syncm_Sync_TermAt.Call s i w R) (hr : ∀ r0 r1 w', R r0 r1 w' → R' r0 r1 w') : syncm_Sync_TermAt.Call s i w R' :=
  Calls.mono h fun e w' he => by
    obtain ⟨r0, r1, h1, h2⟩ := he
    exact ⟨r0, r1, h1, hr r0 r1 w' h2⟩
def syncm_Sync_TermAt.RV (R : Int → Int → World → Prop) (v : Value) (w : World) : Prop := match v with
  | .tuple ⟨[.int .i64 r0, .int .i64 r1]⟩ => R r0 r1 w
  | _ => False
theorem syncm_Sync_TermAt.RV_elim {R : Int → Int → World → Prop} {v : Value} {w : World} (h : syncm_Sync_TermAt.RV R v w) : ∃ r0 r1, Ending.returned v = .returned (.tuple #[.int .i64 r0, .int .i64 r1]) ∧ R r0 r1 w := by
  unfold syncm_Sync_TermAt.RV at h
  split at h
  · exact ⟨_, _, rfl, h⟩
  · exact h.elim
/-- (*e2e/kv.KV).Val -/
def kv_KV_Val.Call (k : Option Addr) (key : ByteArray) (w : World) (R : ByteArray → Bool → World → Prop) : Prop :=
  Calls Tryz.prog 193 #[.pointer k, .string key] w fun e w' => ∃ r0 r1, e = .returned (.tuple #[.string r0, .bool r1]) ∧ R r0 r1 w'
theorem kv_KV_Val.Call.mono {k key} {w : World} {R R' : ByteArray → Bool → World → Prop} (h : kv_KV_Val.Call k key w R) (hr : ∀ r0 r1 w', R r0 r1 w' → R' r0 r1 w') : kv_KV_Val.Call k key w R' :=
  Calls.mono h fun e w' he => by
    obtain ⟨r0, r1, h1, h2⟩ := he
    exact ⟨r0, r1, h1, hr r0 r1 w' h2⟩
def kv_KV_Val.RV (R : ByteArray → Bool → World → Prop) (v : Value) (w : World) : Prop := match v with
  | .tuple ⟨[.string r0, .bool r1]⟩ => R r0 r1 w
  | _ => False
theorem kv_KV_Val.RV_elim {R : ByteArray → Bool → World → Prop} {v : Value} {w : World} (h : kv_KV_Val.RV R v w) : ∃ r0 r1, Ending.returned v = .returned (.tuple #[.string r0, .bool r1]) ∧ R r0 r1 w := by
  unfold kv_KV_Val.RV at h
  split at h
  · exact ⟨_, _, rfl, h⟩
  · exact h.elim
/-- (*e2e/kvm.KV).Val -/
def kvm_KV_Val.Call (k : Option Addr) (key : ByteArray) (w : World) (R : ByteArray → Bool → World → Prop) : Prop :=
  Calls Tryz.prog 194 #[.pointer k, .string key] w fun e w' => ∃ r0 r1, e = .returned (.tuple #[.string r0, .bool r1]) ∧ R r0 r1 w'
theorem kvm_KV_Val.Call.mono {k key} {w : World} {R R' : ByteArray → Bool → World → Prop} (h : kvm_KV_Val.Call k key w R) (hr : ∀ r0 r1 w', R r0 r1 w' → R' r0 r1 w') : kvm_KV_Val.Call k key w R' :=
  Calls.mono h fun e w' he => by
    obtain ⟨r0, r1, h1, h2⟩ := he
    exact ⟨r0, r1, h1, hr r0 r1 w' h2⟩
def kvm_KV_Val.RV (R : ByteArray → Bool → World → Prop) (v : Value) (w : World) : Prop := match v with
  | .tuple ⟨[.string r0, .bool r1]⟩ => R r0 r1 w
  | _ => False
theorem kvm_KV_Val.RV_elim {R : ByteArray → Bool → World → Prop} {v : Value} {w : World} (h : kvm_KV_Val.RV R v w) : ∃ r0 r1, Ending.returned v = .returned (.tuple #[.string r0, .bool r1]) ∧ R r0 r1 w := by
  unfold kvm_KV_Val.RV at h
  split at h
  · exact ⟨_, _, rfl, h⟩
  · exact h.elim
/-- (*e2e/kv.KV).Len -/
def kv_KV_Len.Call (k : Option Addr) (w : World) (R : Int → World → Prop) : Prop :=
  Calls Tryz.prog 195 #[.pointer k] w fun e w' => ∃ r, e = .returned (.int .i64 r) ∧ R r w'
theorem kv_KV_Len.Call.mono {k} {w : World} {R R' : Int → World → Prop} (h : kv_KV_Len.Call k w R) (hr : ∀ r w', R r w' → R' r w') : kv_KV_Len.Call k w R' :=
  Calls.mono h fun e w' he => by
    obtain ⟨r, h1, h2⟩ := he
    exact ⟨r, h1, hr r w' h2⟩
def kv_KV_Len.RV (R : Int → World → Prop) (v : Value) (w : World) : Prop := match v with
  | .int .i64 r => R r w
  | _ => False
theorem kv_KV_Len.RV_elim {R : Int → World → Prop} {v : Value} {w : World} (h : kv_KV_Len.RV R v w) : ∃ r, Ending.returned v = .returned (.int .i64 r) ∧ R r w := by
  unfold kv_KV_Len.RV at h
  split at h
  · exact ⟨_, rfl, h⟩
  · exact h.elim
/-- (*e2e/kvm.KV).Len -/
def kvm_KV_Len.Call (k : Option Addr) (w : World) (R : Int → World → Prop) : Prop :=
  Calls Tryz.prog 196 #[.pointer k] w fun e w' => ∃ r, e = .returned (.int .i64 r) ∧ R r w'
theorem kvm_KV_Len.Call.mono {k} {w : World} {R R' : Int → World → Prop} (h : kvm_KV_Len.Call k w R) (hr : ∀ r w', R r w' → R' r w') : kvm_KV_Len.Call k w R' :=
  Calls.mono h fun e w' he => by
    obtain ⟨r, h1, h2⟩ := he
    exact ⟨r, h1, hr r w' h2⟩
def kvm_KV_Len.RV (R : Int → World → Prop) (v : Value) (w : World) : Prop := match v with
  | .int .i64 r => R r w
  | _ => False
theorem kvm_KV_Len.RV_elim {R : Int → World → Prop} {v : Value} {w : World} (h : kvm_KV_Len.RV R v w) : ∃ r, Ending.returned v = .returned (.int .i64 r) ∧ R r w := by
  unfold kvm_KV_Len.RV at h
  split at h
  · exact ⟨_, rfl, h⟩
  · exact h.elim
/-- (*e2e/kv.KV).KeyAt -/
def kv_KV_KeyAt.Call (k : Option Addr) (i : Int) (w : World) (R : ByteArray → World → Prop) : Prop :=
  Calls Tryz.prog 197 #[.pointer k, .int .i64 i] w fun e w' => ∃ r, e = .returned (.string r) ∧ R r w'
theorem kv_KV_KeyAt.Call.mono {k i} {w : World} {R R' : ByteArray → World → Prop} (h : kv_KV_KeyAt.Call k i w R) (hr : ∀ r w', R r w' → R' r w') : kv_KV_KeyAt.Call k i w R' :=
  Calls.mono h fun e w' he => by
    obtain ⟨r, h1, h2⟩ := he
    exact ⟨r, h1, hr r w' h2⟩
def kv_KV_KeyAt.RV (R : ByteArray → World → Prop) (v : Value) (w : World) : Prop := match v with
  | .string r => R r w
  | _ => False
theorem kv_KV_KeyAt.RV_elim {R : ByteArray → World → Prop} {v : Value} {w : World} (h : kv_KV_KeyAt.RV R v w) : ∃ r, Ending.returned v = .returned (.string r) ∧ R r w := by
  unfold kv_KV_KeyAt.RV at h
  split at h
  · exact ⟨_, rfl, h⟩
  · exact h.elim
/-- (*e2e/kvm.KV).KeyAt -/
def kvm_KV_KeyAt.Call (k : Option Addr) (i : Int) (w : World) (R : ByteArray → World → Prop) : Prop :=
  Calls Tryz.prog 198 #[.pointer k, .int .i64 i] w fun e w' => ∃ r, e = .returned (.string r) ∧ R r w'
theorem kvm_KV_KeyAt.Call.mono {k i} {w : World} {R R' : ByteArray → World → Prop} (h : kvm_KV_KeyAt.Call k i w R) (hr : ∀ r w', R r w' → R' r w') : kvm_KV_KeyAt.Call k i w R' :=
  Calls.mono h fun e w' he => by
    obtain ⟨r, h1, h2⟩ := he
    exact ⟨r, h1, hr r w' h2⟩
def kvm_KV_KeyAt.RV (R : ByteArray → World → Prop) (v : Value) (w : World) : Prop := match v with
  | .string r => R r w
  | _ => False
theorem kvm_KV_KeyAt.RV_elim {R : ByteArray → World → Prop} {v : Value} {w : World} (h : kvm_KV_KeyAt.RV R v w) : ∃ r, Ending.returned v = .returned (.string r) ∧ R r w := by
  unfold kvm_KV_KeyAt.RV at h
  split at h
  · exact ⟨_, rfl, h⟩
  · exact h.elim
/-- (*e2e/kv.KV).Sess -/
def kv_KV_Sess.Call (k : Option Addr) (client : Int) (w : World) (R : Int → Int → ByteArray → World → Prop) : Prop :=
  Calls Tryz.prog 199 #[.pointer k, .int .i64 client] w fun e w' => ∃ r0 r1_0 r1_1, e = .returned (.tuple #[.int .i64 r0, .agg #[.int .i64 r1_0, .string r1_1]]) ∧ R r0 r1_0 r1_1 w'
theorem kv_KV_Sess.Call.mono {k client} {w : World} {R R' : Int → Int → ByteArray → World → Prop} (h : kv_KV_Sess.Call k client w R) (hr : ∀ r0 r1_0 r1_1 w', R r0 r1_0 r1_1 w' → R' r0 r1_0 r1_1 w') : kv_KV_Sess.Call k client w R' :=
  Calls.mono h fun e w' he => by
    obtain ⟨r0, r1_0, r1_1, h1, h2⟩ := he
    exact ⟨r0, r1_0, r1_1, h1, hr r0 r1_0 r1_1 w' h2⟩
def kv_KV_Sess.RV (R : Int → Int → ByteArray → World → Prop) (v : Value) (w : World) : Prop := match v with
  | .tuple ⟨[.int .i64 r0, .agg ⟨[.int .i64 r1_0, .string r1_1]⟩]⟩ => R r0 r1_0 r1_1 w
  | _ => False
theorem kv_KV_Sess.RV_elim {R : Int → Int → ByteArray → World → Prop} {v : Value} {w : World} (h : kv_KV_Sess.RV R v w) : ∃ r0 r1_0 r1_1, Ending.returned v = .returned (.tuple #[.int .i64 r0, .agg #[.int .i64 r1_0, .string r1_1]]) ∧ R r0 r1_0 r1_1 w := by
  unfold kv_KV_Sess.RV at h
  split at h
  · exact ⟨_, _, _, rfl, h⟩
  · exact h.elim
/-- (*e2e/kvm.KV).Sess -/
def kvm_KV_Sess.Call (k : Option Addr) (client : Int) (w : World) (R : Int → Int → ByteArray → World → Prop) : Prop :=
  Calls Tryz.prog 200 #[.pointer k, .int .i64 client] w fun e w' => ∃ r0 r1_0 r1_1, e = .returned (.tuple #[.int .i64 r0, .agg #[.int .i64 r1_0, .string r1_1]]) ∧ R r0 r1_0 r1_1 w'
theorem kvm_KV_Sess.Call.mono {k client} {w : World} {R R' : Int → Int → ByteArray → World → Prop} (h : kvm_KV_Sess.Call k client w R) (hr : ∀ r0 r1_0 r1_1 w', R r0 r1_0 r1_1 w' → R' r0 r1_0 r1_1 w') : kvm_KV_Sess.Call k client w R' :=
  Calls.mono h fun e w' he => by
    obtain ⟨r0, r1_0, r1_1, h1, h2⟩ := he
    exact ⟨r0, r1_0, r1_1, h1, hr r0 r1_0 r1_1 w' h2⟩
def kvm_KV_Sess.RV (R : Int → Int → ByteArray → World → Prop) (v : Value) (w : World) : Prop := match v with
  | .tuple ⟨[.int .i64 r0, .agg ⟨[.int .i64 r1_0, .string r1_1]⟩]⟩ => R r0 r1_0 r1_1 w
  | _ => False
theorem kvm_KV_Sess.RV_elim {R : Int → Int → ByteArray → World → Prop} {v : Value} {w : World} (h : kvm_KV_Sess.RV R v w) : ∃ r0 r1_0 r1_1, Ending.returned v = .returned (.tuple #[.int .i64 r0, .agg #[.int .i64 r1_0, .string r1_1]]) ∧ R r0 r1_0 r1_1 w := by
  unfold kvm_KV_Sess.RV at h
  split at h
  · exact ⟨_, _, _, rfl, h⟩
  · exact h.elim
/-- (*e2e/node.enc).encode -/
def node_enc_encode.Call (w0 : Option Addr) (m0_0 m0_1 m0_2 m0_3 m0_4 m0_5 m0_6 : Int) (m0_7 : Bool) (m0_8_b : Option Addr) (m0_8_l m0_8_c : Nat) (m0_9 : ByteArray) (w : World) (R : ByteArray → World → Prop) : Prop :=
  Calls Tryz.prog 201 #[.pointer w0, .agg #[.int .i64 m0_0, .int .i64 m0_1, .int .i64 m0_2, .int .i64 m0_3, .int .i64 m0_4, .int .i64 m0_5, .int .i64 m0_6, .bool m0_7, .slice m0_8_b m0_8_l m0_8_c, .string m0_9]] w fun e w' => ∃ r, e = .returned (.string r) ∧ R r w'
theorem node_enc_encode.Call.mono {w0 m0_0 m0_1 m0_2 m0_3 m0_4 m0_5 m0_6 m0_7 m0_8_b m0_8_l m0_8_c m0_9} {w : World} {R R' : ByteArray → World → Prop} (h : node_enc_encode.Call w0 m0_0 m0_1 m0_2 m0_3 m0_4 m0_5 m0_6 m0_7 m0_8_b m0_8_l m0_8_c m0_9 w R) (hr : ∀ r w', R r w' → R' r w') : node_enc_encode.Call w0 m0_0 m0_1 m0_2 m0_3 m0_4 m0_5 m0_6 m0_7 m0_8_b m0_8_l m0_8_c m0_9 w R' :=
  Calls.mono h fun e w' he => by
    obtain ⟨r, h1, h2⟩ := he
    exact ⟨r, h1, hr r w' h2⟩
def node_enc_encode.RV (R : ByteArray → World → Prop) (v : Value) (w : World) : Prop := match v with
  | .string r => R r w
  | _ => False
theorem node_enc_encode.RV_elim {R : ByteArray → World → Prop} {v : Value} {w : World} (h : node_enc_encode.RV R v w) : ∃ r, Ending.returned v = .returned (.string r) ∧ R r w := by
  unfold node_enc_encode.RV at h
  split at h
  · exact ⟨_, rfl, h⟩
  · exact h.elim
/-- e2e/api.Timeout -/
def api_Timeout.Call (id0 : Int) (w : World) (R : Int → World → Prop) : Prop :=
  Calls Tryz.prog 202 #[.int .i64 id0] w fun e w' => ∃ r, e = .returned (.int .i64 r) ∧ R r w'
theorem api_Timeout.Call.mono {id0} {w : World} {R R' : Int → World → Prop} (h : api_Timeout.Call id0 w R) (hr : ∀ r w', R r w' → R' r w') : api_Timeout.Call id0 w R' :=
  Calls.mono h fun e w' he => by
    obtain ⟨r, h1, h2⟩ := he
    exact ⟨r, h1, hr r w' h2⟩
def api_Timeout.RV (R : Int → World → Prop) (v : Value) (w : World) : Prop := match v with
  | .int .i64 r => R r w
  | _ => False
theorem api_Timeout.RV_elim {R : Int → World → Prop} {v : Value} {w : World} (h : api_Timeout.RV R v w) : ∃ r, Ending.returned v = .returned (.int .i64 r) ∧ R r w := by
  unfold api_Timeout.RV at h
  split at h
  · exact ⟨_, rfl, h⟩
  · exact h.elim
/-- e2e/elect.bit -/
def elect_bit.Call (p : Int) (w : World) (R : Int → World → Prop) : Prop :=
  Calls Tryz.prog 203 #[.int .i64 p] w fun e w' => ∃ r, e = .returned (.int .i64 r) ∧ R r w'
theorem elect_bit.Call.mono {p} {w : World} {R R' : Int → World → Prop} (h : elect_bit.Call p w R) (hr : ∀ r w', R r w' → R' r w') : elect_bit.Call p w R' :=
  Calls.mono h fun e w' he => by
    obtain ⟨r, h1, h2⟩ := he
    exact ⟨r, h1, hr r w' h2⟩
def elect_bit.RV (R : Int → World → Prop) (v : Value) (w : World) : Prop := match v with
  | .int .i64 r => R r w
  | _ => False
theorem elect_bit.RV_elim {R : Int → World → Prop} {v : Value} {w : World} (h : elect_bit.RV R v w) : ∃ r, Ending.returned v = .returned (.int .i64 r) ∧ R r w := by
  unfold elect_bit.RV at h
  split at h
  · exact ⟨_, rfl, h⟩
  · exact h.elim
/-- (*e2e/kv.reader).one -/
def kv_reader_one.Call (r : Option Addr) (w : World) (R : Int → World → Prop) : Prop :=
  Calls Tryz.prog 204 #[.pointer r] w fun e w' => ∃ r_1, e = .returned (.int .i64 r_1) ∧ R r_1 w'
theorem kv_reader_one.Call.mono {r} {w : World} {R R' : Int → World → Prop} (h : kv_reader_one.Call r w R) (hr : ∀ r_1 w', R r_1 w' → R' r_1 w') : kv_reader_one.Call r w R' :=
  Calls.mono h fun e w' he => by
    obtain ⟨r_1, h1, h2⟩ := he
    exact ⟨r_1, h1, hr r_1 w' h2⟩
def kv_reader_one.RV (R : Int → World → Prop) (v : Value) (w : World) : Prop := match v with
  | .int .i64 r_1 => R r_1 w
  | _ => False
theorem kv_reader_one.RV_elim {R : Int → World → Prop} {v : Value} {w : World} (h : kv_reader_one.RV R v w) : ∃ r_1, Ending.returned v = .returned (.int .i64 r_1) ∧ R r_1 w := by
  unfold kv_reader_one.RV at h
  split at h
  · exact ⟨_, rfl, h⟩
  · exact h.elim
/-- (*e2e/kv.reader).str -/
def kv_reader_str.Call (r : Option Addr) (lo hi : Int) (w : World) (R : ByteArray → World → Prop) : Prop :=
  Calls Tryz.prog 205 #[.pointer r, .int .i64 lo, .int .i64 hi] w fun e w' => ∃ r_1, e = .returned (.string r_1) ∧ R r_1 w'
theorem kv_reader_str.Call.mono {r lo hi} {w : World} {R R' : ByteArray → World → Prop} (h : kv_reader_str.Call r lo hi w R) (hr : ∀ r_1 w', R r_1 w' → R' r_1 w') : kv_reader_str.Call r lo hi w R' :=
  Calls.mono h fun e w' he => by
    obtain ⟨r_1, h1, h2⟩ := he
    exact ⟨r_1, h1, hr r_1 w' h2⟩
def kv_reader_str.RV (R : ByteArray → World → Prop) (v : Value) (w : World) : Prop := match v with
  | .string r_1 => R r_1 w
  | _ => False
theorem kv_reader_str.RV_elim {R : ByteArray → World → Prop} {v : Value} {w : World} (h : kv_reader_str.RV R v w) : ∃ r_1, Ending.returned v = .returned (.string r_1) ∧ R r_1 w := by
  unfold kv_reader_str.RV at h
  split at h
  · exact ⟨_, rfl, h⟩
  · exact h.elim
/-- (*e2e/kv.table).add -/
def kv_table_add.Call (t : Option Addr) (key val : ByteArray) (w : World) (R : World → Prop) : Prop :=
  Calls Tryz.prog 206 #[.pointer t, .string key, .string val] w fun e w' => e = .returned (.tuple #[]) ∧ R w'
theorem kv_table_add.Call.mono {t key val} {w : World} {R R' : World → Prop} (h : kv_table_add.Call t key val w R) (hr : ∀ w', R w' → R'  w') : kv_table_add.Call t key val w R' :=
  Calls.mono h fun e w' he => by
    obtain ⟨h1, h2⟩ := he
    exact ⟨h1, hr  w' h2⟩
def kv_table_add.RV (R : World → Prop) (v : Value) (w : World) : Prop := match v with
  | .tuple ⟨[]⟩ => R w
  | _ => False
theorem kv_table_add.RV_elim {R : World → Prop} {v : Value} {w : World} (h : kv_table_add.RV R v w) : Ending.returned v = .returned (.tuple #[]) ∧ R w := by
  unfold kv_table_add.RV at h
  split at h
  · exact ⟨rfl, h⟩
  · exact h.elim
/-- (*e2e/kv.reader).num -/
def kv_reader_num.Call (r : Option Addr) (w : World) (R : Int → World → Prop) : Prop :=
  Calls Tryz.prog 207 #[.pointer r] w fun e w' => ∃ r_1, e = .returned (.int .i64 r_1) ∧ R r_1 w'
theorem kv_reader_num.Call.mono {r} {w : World} {R R' : Int → World → Prop} (h : kv_reader_num.Call r w R) (hr : ∀ r_1 w', R r_1 w' → R' r_1 w') : kv_reader_num.Call r w R' :=
  Calls.mono h fun e w' he => by
    obtain ⟨r_1, h1, h2⟩ := he
    exact ⟨r_1, h1, hr r_1 w' h2⟩
def kv_reader_num.RV (R : Int → World → Prop) (v : Value) (w : World) : Prop := match v with
  | .int .i64 r_1 => R r_1 w
  | _ => False
theorem kv_reader_num.RV_elim {R : Int → World → Prop} {v : Value} {w : World} (h : kv_reader_num.RV R v w) : ∃ r_1, Ending.returned v = .returned (.int .i64 r_1) ∧ R r_1 w := by
  unfold kv_reader_num.RV at h
  split at h
  · exact ⟨_, rfl, h⟩
  · exact h.elim
/-- e2e/kv.mkSession -/
def kv_mkSession.Call (seq a_0 : Int) (a_1 : ByteArray) (w : World) (R : Int → Int → Int → Int → Int → Int → World → Prop) : Prop :=
  Calls Tryz.prog 208 #[.int .i64 seq, .agg #[.int .i64 a_0, .string a_1]] w fun e w' => ∃ r_0 r_1 r_2 r_3 r_4 r_5, e = .returned (.agg #[.int .i64 r_0, .int .i64 r_1, .int .i64 r_2, .int .u8 r_3, .int .u8 r_4, .int .u8 r_5]) ∧ R r_0 r_1 r_2 r_3 r_4 r_5 w'
theorem kv_mkSession.Call.mono {seq a_0 a_1} {w : World} {R R' : Int → Int → Int → Int → Int → Int → World → Prop} (h : kv_mkSession.Call seq a_0 a_1 w R) (hr : ∀ r_0 r_1 r_2 r_3 r_4 r_5 w', R r_0 r_1 r_2 r_3 r_4 r_5 w' → R' r_0 r_1 r_2 r_3 r_4 r_5 w') : kv_mkSession.Call seq a_0 a_1 w R' :=
  Calls.mono h fun e w' he => by
    obtain ⟨r_0, r_1, r_2, r_3, r_4, r_5, h1, h2⟩ := he
    exact ⟨r_0, r_1, r_2, r_3, r_4, r_5, h1, hr r_0 r_1 r_2 r_3 r_4 r_5 w' h2⟩
def kv_mkSession.RV (R : Int → Int → Int → Int → Int → Int → World → Prop) (v : Value) (w : World) : Prop := match v with
  | .agg ⟨[.int .i64 r_0, .int .i64 r_1, .int .i64 r_2, .int .u8 r_3, .int .u8 r_4, .int .u8 r_5]⟩ => R r_0 r_1 r_2 r_3 r_4 r_5 w
  | _ => False
theorem kv_mkSession.RV_elim {R : Int → Int → Int → Int → Int → Int → World → Prop} {v : Value} {w : World} (h : kv_mkSession.RV R v w) : ∃ r_0 r_1 r_2 r_3 r_4 r_5, Ending.returned v = .returned (.agg #[.int .i64 r_0, .int .i64 r_1, .int .i64 r_2, .int .u8 r_3, .int .u8 r_4, .int .u8 r_5]) ∧ R r_0 r_1 r_2 r_3 r_4 r_5 w := by
  unfold kv_mkSession.RV at h
  split at h
  · exact ⟨_, _, _, _, _, _, rfl, h⟩
  · exact h.elim
/-- (*e2e/diskm.Disk).Read -/
def diskm_Disk_Read.Call (d : Option Addr) (b : Int) (w : World) (R : ByteArray → Int → World → Prop) : Prop :=
  Calls Tryz.prog 209 #[.pointer d, .int .i64 b] w fun e w' => ∃ r0 r1, e = .returned (.tuple #[.string r0, .int .i64 r1]) ∧ R r0 r1 w'
theorem diskm_Disk_Read.Call.mono {d b} {w : World} {R R' : ByteArray → Int → World → Prop} (h : diskm_Disk_Read.Call d b w R) (hr : ∀ r0 r1 w', R r0 r1 w' → R' r0 r1 w') : diskm_Disk_Read.Call d b w R' :=
  Calls.mono h fun e w' he => by
    obtain ⟨r0, r1, h1, h2⟩ := he
    exact ⟨r0, r1, h1, hr r0 r1 w' h2⟩
def diskm_Disk_Read.RV (R : ByteArray → Int → World → Prop) (v : Value) (w : World) : Prop := match v with
  | .tuple ⟨[.string r0, .int .i64 r1]⟩ => R r0 r1 w
  | _ => False
theorem diskm_Disk_Read.RV_elim {R : ByteArray → Int → World → Prop} {v : Value} {w : World} (h : diskm_Disk_Read.RV R v w) : ∃ r0 r1, Ending.returned v = .returned (.tuple #[.string r0, .int .i64 r1]) ∧ R r0 r1 w := by
  unfold diskm_Disk_Read.RV at h
  split at h
  · exact ⟨_, _, rfl, h⟩
  · exact h.elim
/-- e2e/store.whole -/
def store_whole.Call (b : ByteArray) (w : World) (R : Bool → World → Prop) : Prop :=
  Calls Tryz.prog 210 #[.string b] w fun e w' => ∃ r, e = .returned (.bool r) ∧ R r w'
theorem store_whole.Call.mono {b} {w : World} {R R' : Bool → World → Prop} (h : store_whole.Call b w R) (hr : ∀ r w', R r w' → R' r w') : store_whole.Call b w R' :=
  Calls.mono h fun e w' he => by
    obtain ⟨r, h1, h2⟩ := he
    exact ⟨r, h1, hr r w' h2⟩
def store_whole.RV (R : Bool → World → Prop) (v : Value) (w : World) : Prop := match v with
  | .bool r => R r w
  | _ => False
theorem store_whole.RV_elim {R : Bool → World → Prop} {v : Value} {w : World} (h : store_whole.RV R v w) : ∃ r, Ending.returned v = .returned (.bool r) ∧ R r w := by
  unfold store_whole.RV at h
  split at h
  · exact ⟨_, rfl, h⟩
  · exact h.elim
/-- e2e/store.get8 -/
def store_get8.Call (b : ByteArray) (at0 : Int) (w : World) (R : Int → World → Prop) : Prop :=
  Calls Tryz.prog 211 #[.string b, .int .i64 at0] w fun e w' => ∃ r, e = .returned (.int .i64 r) ∧ R r w'
theorem store_get8.Call.mono {b at0} {w : World} {R R' : Int → World → Prop} (h : store_get8.Call b at0 w R) (hr : ∀ r w', R r w' → R' r w') : store_get8.Call b at0 w R' :=
  Calls.mono h fun e w' he => by
    obtain ⟨r, h1, h2⟩ := he
    exact ⟨r, h1, hr r w' h2⟩
def store_get8.RV (R : Int → World → Prop) (v : Value) (w : World) : Prop := match v with
  | .int .i64 r => R r w
  | _ => False
theorem store_get8.RV_elim {R : Int → World → Prop} {v : Value} {w : World} (h : store_get8.RV R v w) : ∃ r, Ending.returned v = .returned (.int .i64 r) ∧ R r w := by
  unfold store_get8.RV at h
  split at h
  · exact ⟨_, rfl, h⟩
  · exact h.elim
/-- e2e/rlog.slotOf -/
def rlog_slotOf.Call (i : Int) (w : World) (R : Int → World → Prop) : Prop :=
  Calls Tryz.prog 212 #[.int .i64 i] w fun e w' => ∃ r, e = .returned (.int .i64 r) ∧ R r w'
theorem rlog_slotOf.Call.mono {i} {w : World} {R R' : Int → World → Prop} (h : rlog_slotOf.Call i w R) (hr : ∀ r w', R r w' → R' r w') : rlog_slotOf.Call i w R' :=
  Calls.mono h fun e w' he => by
    obtain ⟨r, h1, h2⟩ := he
    exact ⟨r, h1, hr r w' h2⟩
def rlog_slotOf.RV (R : Int → World → Prop) (v : Value) (w : World) : Prop := match v with
  | .int .i64 r => R r w
  | _ => False
theorem rlog_slotOf.RV_elim {R : Int → World → Prop} {v : Value} {w : World} (h : rlog_slotOf.RV R v w) : ∃ r, Ending.returned v = .returned (.int .i64 r) ∧ R r w := by
  unfold rlog_slotOf.RV at h
  split at h
  · exact ⟨_, rfl, h⟩
  · exact h.elim
/-- (*e2e/store.Store).Rec -/
def store_Store_Rec.Call (t : Option Addr) (slot : Int) (w : World) (R : Int → Int → ByteArray → Int → World → Prop) : Prop :=
  Calls Tryz.prog 213 #[.pointer t, .int .i64 slot] w fun e w' => ∃ r0_0 r0_1 r0_2 r1, e = .returned (.tuple #[.agg #[.int .i64 r0_0, .int .i64 r0_1, .string r0_2], .int .i64 r1]) ∧ R r0_0 r0_1 r0_2 r1 w'
theorem store_Store_Rec.Call.mono {t slot} {w : World} {R R' : Int → Int → ByteArray → Int → World → Prop} (h : store_Store_Rec.Call t slot w R) (hr : ∀ r0_0 r0_1 r0_2 r1 w', R r0_0 r0_1 r0_2 r1 w' → R' r0_0 r0_1 r0_2 r1 w') : store_Store_Rec.Call t slot w R' :=
  Calls.mono h fun e w' he => by
    obtain ⟨r0_0, r0_1, r0_2, r1, h1, h2⟩ := he
    exact ⟨r0_0, r0_1, r0_2, r1, h1, hr r0_0 r0_1 r0_2 r1 w' h2⟩
def store_Store_Rec.RV (R : Int → Int → ByteArray → Int → World → Prop) (v : Value) (w : World) : Prop := match v with
  | .tuple ⟨[.agg ⟨[.int .i64 r0_0, .int .i64 r0_1, .string r0_2]⟩, .int .i64 r1]⟩ => R r0_0 r0_1 r0_2 r1 w
  | _ => False
theorem store_Store_Rec.RV_elim {R : Int → Int → ByteArray → Int → World → Prop} {v : Value} {w : World} (h : store_Store_Rec.RV R v w) : ∃ r0_0 r0_1 r0_2 r1, Ending.returned v = .returned (.tuple #[.agg #[.int .i64 r0_0, .int .i64 r0_1, .string r0_2], .int .i64 r1]) ∧ R r0_0 r0_1 r0_2 r1 w := by
  unfold store_Store_Rec.RV at h
  split at h
  · exact ⟨_, _, _, _, rfl, h⟩
  · exact h.elim
/-- (*e2e/rlog.Log).indexIn -/
def rlog_Log_indexIn.Call (l : Option Addr) (s : Int) (w : World) (R : Int → World → Prop) : Prop :=
  Calls Tryz.prog 214 #[.pointer l, .int .i64 s] w fun e w' => ∃ r, e = .returned (.int .i64 r) ∧ R r w'
theorem rlog_Log_indexIn.Call.mono {l s} {w : World} {R R' : Int → World → Prop} (h : rlog_Log_indexIn.Call l s w R) (hr : ∀ r w', R r w' → R' r w') : rlog_Log_indexIn.Call l s w R' :=
  Calls.mono h fun e w' he => by
    obtain ⟨r, h1, h2⟩ := he
    exact ⟨r, h1, hr r w' h2⟩
def rlog_Log_indexIn.RV (R : Int → World → Prop) (v : Value) (w : World) : Prop := match v with
  | .int .i64 r => R r w
  | _ => False
theorem rlog_Log_indexIn.RV_elim {R : Int → World → Prop} {v : Value} {w : World} (h : rlog_Log_indexIn.RV R v w) : ∃ r, Ending.returned v = .returned (.int .i64 r) ∧ R r w := by
  unfold rlog_Log_indexIn.RV at h
  split at h
  · exact ⟨_, rfl, h⟩
  · exact h.elim
/-- (*e2e/store.Store).DelRec -/
def store_Store_DelRec.Call (t : Option Addr) (slot : Int) (w : World) (R : Int → World → Prop) : Prop :=
  Calls Tryz.prog 215 #[.pointer t, .int .i64 slot] w fun e w' => ∃ r, e = .returned (.int .i64 r) ∧ R r w'
theorem store_Store_DelRec.Call.mono {t slot} {w : World} {R R' : Int → World → Prop} (h : store_Store_DelRec.Call t slot w R) (hr : ∀ r w', R r w' → R' r w') : store_Store_DelRec.Call t slot w R' :=
  Calls.mono h fun e w' he => by
    obtain ⟨r, h1, h2⟩ := he
    exact ⟨r, h1, hr r w' h2⟩
def store_Store_DelRec.RV (R : Int → World → Prop) (v : Value) (w : World) : Prop := match v with
  | .int .i64 r => R r w
  | _ => False
theorem store_Store_DelRec.RV_elim {R : Int → World → Prop} {v : Value} {w : World} (h : store_Store_DelRec.RV R v w) : ∃ r, Ending.returned v = .returned (.int .i64 r) ∧ R r w := by
  unfold store_Store_DelRec.RV at h
  split at h
  · exact ⟨_, rfl, h⟩
  · exact h.elim
/-- (*e2e/rlog.Log).Last -/
def rlog_Log_Last.Call (l : Option Addr) (w : World) (R : Int → World → Prop) : Prop :=
  Calls Tryz.prog 216 #[.pointer l] w fun e w' => ∃ r, e = .returned (.int .i64 r) ∧ R r w'
theorem rlog_Log_Last.Call.mono {l} {w : World} {R R' : Int → World → Prop} (h : rlog_Log_Last.Call l w R) (hr : ∀ r w', R r w' → R' r w') : rlog_Log_Last.Call l w R' :=
  Calls.mono h fun e w' he => by
    obtain ⟨r, h1, h2⟩ := he
    exact ⟨r, h1, hr r w' h2⟩
def rlog_Log_Last.RV (R : Int → World → Prop) (v : Value) (w : World) : Prop := match v with
  | .int .i64 r => R r w
  | _ => False
theorem rlog_Log_Last.RV_elim {R : Int → World → Prop} {v : Value} {w : World} (h : rlog_Log_Last.RV R v w) : ∃ r, Ending.returned v = .returned (.int .i64 r) ∧ R r w := by
  unfold rlog_Log_Last.RV at h
  split at h
  · exact ⟨_, rfl, h⟩
  · exact h.elim
/-- (*e2e/rlog.Log).TermAt -/
def rlog_Log_TermAt.Call (l : Option Addr) (i : Int) (w : World) (R : Int → Int → World → Prop) : Prop :=
  Calls Tryz.prog 217 #[.pointer l, .int .i64 i] w fun e w' => ∃ r0 r1, e = .returned (.tuple #[.int .i64 r0, .int .i64 r1]) ∧ R r0 r1 w'
theorem rlog_Log_TermAt.Call.mono {l i} {w : World} {R R' : Int → Int → World → Prop} (h : rlog_Log_TermAt.Call l i w R) (hr : ∀ r0 r1 w', R r0 r1 w' → R' r0 r1 w') : rlog_Log_TermAt.Call l i w R' :=
  Calls.mono h fun e w' he => by
    obtain ⟨r0, r1, h1, h2⟩ := he
    exact ⟨r0, r1, h1, hr r0 r1 w' h2⟩
def rlog_Log_TermAt.RV (R : Int → Int → World → Prop) (v : Value) (w : World) : Prop := match v with
  | .tuple ⟨[.int .i64 r0, .int .i64 r1]⟩ => R r0 r1 w
  | _ => False
theorem rlog_Log_TermAt.RV_elim {R : Int → Int → World → Prop} {v : Value} {w : World} (h : rlog_Log_TermAt.RV R v w) : ∃ r0 r1, Ending.returned v = .returned (.tuple #[.int .i64 r0, .int .i64 r1]) ∧ R r0 r1 w := by
  unfold rlog_Log_TermAt.RV at h
  split at h
  · exact ⟨_, _, rfl, h⟩
  · exact h.elim
/-- e2e/kvm.take -/
def kvm_take.Call (s : ByteArray) (p lo hi : Int) (w : World) (R : ByteArray → Int → World → Prop) : Prop :=
  Calls Tryz.prog 218 #[.string s, .int .i64 p, .int .i64 lo, .int .i64 hi] w fun e w' => ∃ r0 r1, e = .returned (.tuple #[.string r0, .int .i64 r1]) ∧ R r0 r1 w'
theorem kvm_take.Call.mono {s p lo hi} {w : World} {R R' : ByteArray → Int → World → Prop} (h : kvm_take.Call s p lo hi w R) (hr : ∀ r0 r1 w', R r0 r1 w' → R' r0 r1 w') : kvm_take.Call s p lo hi w R' :=
  Calls.mono h fun e w' he => by
    obtain ⟨r0, r1, h1, h2⟩ := he
    exact ⟨r0, r1, h1, hr r0 r1 w' h2⟩
def kvm_take.RV (R : ByteArray → Int → World → Prop) (v : Value) (w : World) : Prop := match v with
  | .tuple ⟨[.string r0, .int .i64 r1]⟩ => R r0 r1 w
  | _ => False
theorem kvm_take.RV_elim {R : ByteArray → Int → World → Prop} {v : Value} {w : World} (h : kvm_take.RV R v w) : ∃ r0 r1, Ending.returned v = .returned (.tuple #[.string r0, .int .i64 r1]) ∧ R r0 r1 w := by
  unfold kvm_take.RV at h
  split at h
  · exact ⟨_, _, rfl, h⟩
  · exact h.elim
/-- e2e/elect.turn -/
def elect_turn.Call (role ev : Int) (w : World) (R : Int → World → Prop) : Prop :=
  Calls Tryz.prog 219 #[.int .i64 role, .int .i64 ev] w fun e w' => ∃ r, e = .returned (.int .i64 r) ∧ R r w'
theorem elect_turn.Call.mono {role ev} {w : World} {R R' : Int → World → Prop} (h : elect_turn.Call role ev w R) (hr : ∀ r w', R r w' → R' r w') : elect_turn.Call role ev w R' :=
  Calls.mono h fun e w' he => by
    obtain ⟨r, h1, h2⟩ := he
    exact ⟨r, h1, hr r w' h2⟩
def elect_turn.RV (R : Int → World → Prop) (v : Value) (w : World) : Prop := match v with
  | .int .i64 r => R r w
  | _ => False
theorem elect_turn.RV_elim {R : Int → World → Prop} {v : Value} {w : World} (h : elect_turn.RV R v w) : ∃ r, Ending.returned v = .returned (.int .i64 r) ∧ R r w := by
  unfold elect_turn.RV at h
  split at h
  · exact ⟨_, rfl, h⟩
  · exact h.elim
/-- (*e2e/rlog.Log).SetTerm -/
def rlog_Log_SetTerm.Call (l : Option Addr) (term vote : Int) (w : World) (R : Int → World → Prop) : Prop :=
  Calls Tryz.prog 220 #[.pointer l, .int .i64 term, .int .i64 vote] w fun e w' => ∃ r, e = .returned (.int .i64 r) ∧ R r w'
theorem rlog_Log_SetTerm.Call.mono {l term vote} {w : World} {R R' : Int → World → Prop} (h : rlog_Log_SetTerm.Call l term vote w R) (hr : ∀ r w', R r w' → R' r w') : rlog_Log_SetTerm.Call l term vote w R' :=
  Calls.mono h fun e w' he => by
    obtain ⟨r, h1, h2⟩ := he
    exact ⟨r, h1, hr r w' h2⟩
def rlog_Log_SetTerm.RV (R : Int → World → Prop) (v : Value) (w : World) : Prop := match v with
  | .int .i64 r => R r w
  | _ => False
theorem rlog_Log_SetTerm.RV_elim {R : Int → World → Prop} {v : Value} {w : World} (h : rlog_Log_SetTerm.RV R v w) : ∃ r, Ending.returned v = .returned (.int .i64 r) ∧ R r w := by
  unfold rlog_Log_SetTerm.RV at h
  split at h
  · exact ⟨_, rfl, h⟩
  · exact h.elim
/-- (*e2e/sync.Sync).send -/
def sync_Sync_send.Call (s : Option Addr) (p : Int) (w : World) (R : World → Prop) : Prop :=
  Calls Tryz.prog 221 #[.pointer s, .int .i64 p] w fun e w' => e = .returned (.tuple #[]) ∧ R w'
theorem sync_Sync_send.Call.mono {s p} {w : World} {R R' : World → Prop} (h : sync_Sync_send.Call s p w R) (hr : ∀ w', R w' → R'  w') : sync_Sync_send.Call s p w R' :=
  Calls.mono h fun e w' he => by
    obtain ⟨h1, h2⟩ := he
    exact ⟨h1, hr  w' h2⟩
def sync_Sync_send.RV (R : World → Prop) (v : Value) (w : World) : Prop := match v with
  | .tuple ⟨[]⟩ => R w
  | _ => False
theorem sync_Sync_send.RV_elim {R : World → Prop} {v : Value} {w : World} (h : sync_Sync_send.RV R v w) : Ending.returned v = .returned (.tuple #[]) ∧ R w := by
  unfold sync_Sync_send.RV at h
  split at h
  · exact ⟨rfl, h⟩
  · exact h.elim
/-- (*e2e/kv.KV).Snapshot -/
def kv_KV_Snapshot.Call (k : Option Addr) (w : World) (R : ByteArray → World → Prop) : Prop :=
  Calls Tryz.prog 222 #[.pointer k] w fun e w' => ∃ r, e = .returned (.string r) ∧ R r w'
theorem kv_KV_Snapshot.Call.mono {k} {w : World} {R R' : ByteArray → World → Prop} (h : kv_KV_Snapshot.Call k w R) (hr : ∀ r w', R r w' → R' r w') : kv_KV_Snapshot.Call k w R' :=
  Calls.mono h fun e w' he => by
    obtain ⟨r, h1, h2⟩ := he
    exact ⟨r, h1, hr r w' h2⟩
def kv_KV_Snapshot.RV (R : ByteArray → World → Prop) (v : Value) (w : World) : Prop := match v with
  | .string r => R r w
  | _ => False
theorem kv_KV_Snapshot.RV_elim {R : ByteArray → World → Prop} {v : Value} {w : World} (h : kv_KV_Snapshot.RV R v w) : ∃ r, Ending.returned v = .returned (.string r) ∧ R r w := by
  unfold kv_KV_Snapshot.RV at h
  split at h
  · exact ⟨_, rfl, h⟩
  · exact h.elim
/-- (*e2e/sync.Sync).Compact -/
def sync_Sync_Compact.Call (s : Option Addr) (upTo : Int) (snap : ByteArray) (w : World) (R : Int → World → Prop) : Prop :=
  Calls Tryz.prog 223 #[.pointer s, .int .i64 upTo, .string snap] w fun e w' => ∃ r, e = .returned (.int .i64 r) ∧ R r w'
theorem sync_Sync_Compact.Call.mono {s upTo snap} {w : World} {R R' : Int → World → Prop} (h : sync_Sync_Compact.Call s upTo snap w R) (hr : ∀ r w', R r w' → R' r w') : sync_Sync_Compact.Call s upTo snap w R' :=
  Calls.mono h fun e w' he => by
    obtain ⟨r, h1, h2⟩ := he
    exact ⟨r, h1, hr r w' h2⟩
def sync_Sync_Compact.RV (R : Int → World → Prop) (v : Value) (w : World) : Prop := match v with
  | .int .i64 r => R r w
  | _ => False
theorem sync_Sync_Compact.RV_elim {R : Int → World → Prop} {v : Value} {w : World} (h : sync_Sync_Compact.RV R v w) : ∃ r, Ending.returned v = .returned (.int .i64 r) ∧ R r w := by
  unfold sync_Sync_Compact.RV at h
  split at h
  · exact ⟨_, rfl, h⟩
  · exact h.elim
/-- (*e2e/kv.KV).Apply -/
def kv_KV_Apply.Call (k : Option Addr) (data : ByteArray) (w : World) (R : Int → ByteArray → World → Prop) : Prop :=
  Calls Tryz.prog 224 #[.pointer k, .string data] w fun e w' => ∃ r_0 r_1, e = .returned (.agg #[.int .i64 r_0, .string r_1]) ∧ R r_0 r_1 w'
theorem kv_KV_Apply.Call.mono {k data} {w : World} {R R' : Int → ByteArray → World → Prop} (h : kv_KV_Apply.Call k data w R) (hr : ∀ r_0 r_1 w', R r_0 r_1 w' → R' r_0 r_1 w') : kv_KV_Apply.Call k data w R' :=
  Calls.mono h fun e w' he => by
    obtain ⟨r_0, r_1, h1, h2⟩ := he
    exact ⟨r_0, r_1, h1, hr r_0 r_1 w' h2⟩
def kv_KV_Apply.RV (R : Int → ByteArray → World → Prop) (v : Value) (w : World) : Prop := match v with
  | .agg ⟨[.int .i64 r_0, .string r_1]⟩ => R r_0 r_1 w
  | _ => False
theorem kv_KV_Apply.RV_elim {R : Int → ByteArray → World → Prop} {v : Value} {w : World} (h : kv_KV_Apply.RV R v w) : ∃ r_0 r_1, Ending.returned v = .returned (.agg #[.int .i64 r_0, .string r_1]) ∧ R r_0 r_1 w := by
  unfold kv_KV_Apply.RV at h
  split at h
  · exact ⟨_, _, rfl, h⟩
  · exact h.elim
/-- (*e2e/node.Node).answer -/
def node_Node_answer.Call (n : Option Addr) (data : ByteArray) (a_0 : Int) (a_1 : ByteArray) (w : World) (R : World → Prop) : Prop :=
  Calls Tryz.prog 225 #[.pointer n, .string data, .agg #[.int .i64 a_0, .string a_1]] w fun e w' => e = .returned (.tuple #[]) ∧ R w'
theorem node_Node_answer.Call.mono {n data a_0 a_1} {w : World} {R R' : World → Prop} (h : node_Node_answer.Call n data a_0 a_1 w R) (hr : ∀ w', R w' → R'  w') : node_Node_answer.Call n data a_0 a_1 w R' :=
  Calls.mono h fun e w' he => by
    obtain ⟨h1, h2⟩ := he
    exact ⟨h1, hr  w' h2⟩
def node_Node_answer.RV (R : World → Prop) (v : Value) (w : World) : Prop := match v with
  | .tuple ⟨[]⟩ => R w
  | _ => False
theorem node_Node_answer.RV_elim {R : World → Prop} {v : Value} {w : World} (h : node_Node_answer.RV R v w) : Ending.returned v = .returned (.tuple #[]) ∧ R w := by
  unfold node_Node_answer.RV at h
  split at h
  · exact ⟨rfl, h⟩
  · exact h.elim
/-- (*e2e/node.Node).reply -/
def node_Node_reply.Call (n : Option Addr) (c a_0 : Int) (a_1 : ByteArray) (w : World) (R : World → Prop) : Prop :=
  Calls Tryz.prog 226 #[.pointer n, .int .i64 c, .agg #[.int .i64 a_0, .string a_1]] w fun e w' => e = .returned (.tuple #[]) ∧ R w'
theorem node_Node_reply.Call.mono {n c a_0 a_1} {w : World} {R R' : World → Prop} (h : node_Node_reply.Call n c a_0 a_1 w R) (hr : ∀ w', R w' → R'  w') : node_Node_reply.Call n c a_0 a_1 w R' :=
  Calls.mono h fun e w' he => by
    obtain ⟨h1, h2⟩ := he
    exact ⟨h1, hr  w' h2⟩
def node_Node_reply.RV (R : World → Prop) (v : Value) (w : World) : Prop := match v with
  | .tuple ⟨[]⟩ => R w
  | _ => False
theorem node_Node_reply.RV_elim {R : World → Prop} {v : Value} {w : World} (h : node_Node_reply.RV R v w) : Ending.returned v = .returned (.tuple #[]) ∧ R w := by
  unfold node_Node_reply.RV at h
  split at h
  · exact ⟨rfl, h⟩
  · exact h.elim
/-- e2e/node.mix -/
def node_mix.Call (sum b : Int) (w : World) (R : Int → World → Prop) : Prop :=
  Calls Tryz.prog 227 #[.int .i64 sum, .int .u8 b] w fun e w' => ∃ r, e = .returned (.int .i64 r) ∧ R r w'
theorem node_mix.Call.mono {sum b} {w : World} {R R' : Int → World → Prop} (h : node_mix.Call sum b w R) (hr : ∀ r w', R r w' → R' r w') : node_mix.Call sum b w R' :=
  Calls.mono h fun e w' he => by
    obtain ⟨r, h1, h2⟩ := he
    exact ⟨r, h1, hr r w' h2⟩
def node_mix.RV (R : Int → World → Prop) (v : Value) (w : World) : Prop := match v with
  | .int .i64 r => R r w
  | _ => False
theorem node_mix.RV_elim {R : Int → World → Prop} {v : Value} {w : World} (h : node_mix.RV R v w) : ∃ r, Ending.returned v = .returned (.int .i64 r) ∧ R r w := by
  unfold node_mix.RV at h
  split at h
  · exact ⟨_, rfl, h⟩
  · exact h.elim
/-- (*e2e/elect.Elect).AskedVote -/
def elect_Elect_AskedVote.Call (e_1 : Option Addr) (from0 term : Int) (upToDate : Bool) (w : World) (R : Bool → World → Prop) : Prop :=
  Calls Tryz.prog 228 #[.pointer e_1, .int .i64 from0, .int .i64 term, .bool upToDate] w fun e w' => ∃ r, e = .returned (.bool r) ∧ R r w'
theorem elect_Elect_AskedVote.Call.mono {e_1 from0 term upToDate} {w : World} {R R' : Bool → World → Prop} (h : elect_Elect_AskedVote.Call e_1 from0 term upToDate w R) (hr : ∀ r w', R r w' → R' r w') : elect_Elect_AskedVote.Call e_1 from0 term upToDate w R' :=
  Calls.mono h fun e w' he => by
    obtain ⟨r, h1, h2⟩ := he
    exact ⟨r, h1, hr r w' h2⟩
def elect_Elect_AskedVote.RV (R : Bool → World → Prop) (v : Value) (w : World) : Prop := match v with
  | .bool r => R r w
  | _ => False
theorem elect_Elect_AskedVote.RV_elim {R : Bool → World → Prop} {v : Value} {w : World} (h : elect_Elect_AskedVote.RV R v w) : ∃ r, Ending.returned v = .returned (.bool r) ∧ R r w := by
  unfold elect_Elect_AskedVote.RV at h
  split at h
  · exact ⟨_, rfl, h⟩
  · exact h.elim
/-- (*e2e/sync.Sync).reply -/
def sync_Sync_reply.Call (s : Option Addr) (k p : Int) (ok : Bool) (index : Int) (w : World) (R : World → Prop) : Prop :=
  Calls Tryz.prog 229 #[.pointer s, .int .i64 k, .int .i64 p, .bool ok, .int .i64 index] w fun e w' => e = .returned (.tuple #[]) ∧ R w'
theorem sync_Sync_reply.Call.mono {s k p ok index} {w : World} {R R' : World → Prop} (h : sync_Sync_reply.Call s k p ok index w R) (hr : ∀ w', R w' → R'  w') : sync_Sync_reply.Call s k p ok index w R' :=
  Calls.mono h fun e w' he => by
    obtain ⟨h1, h2⟩ := he
    exact ⟨h1, hr  w' h2⟩
def sync_Sync_reply.RV (R : World → Prop) (v : Value) (w : World) : Prop := match v with
  | .tuple ⟨[]⟩ => R w
  | _ => False
theorem sync_Sync_reply.RV_elim {R : World → Prop} {v : Value} {w : World} (h : sync_Sync_reply.RV R v w) : Ending.returned v = .returned (.tuple #[]) ∧ R w := by
  unfold sync_Sync_reply.RV at h
  split at h
  · exact ⟨rfl, h⟩
  · exact h.elim
/-- (*e2e/elect.Elect).GotVote -/
def elect_Elect_GotVote.Call (e_1 : Option Addr) (from0 term : Int) (granted : Bool) (w : World) (R : Bool → World → Prop) : Prop :=
  Calls Tryz.prog 230 #[.pointer e_1, .int .i64 from0, .int .i64 term, .bool granted] w fun e w' => ∃ r, e = .returned (.bool r) ∧ R r w'
theorem elect_Elect_GotVote.Call.mono {e_1 from0 term granted} {w : World} {R R' : Bool → World → Prop} (h : elect_Elect_GotVote.Call e_1 from0 term granted w R) (hr : ∀ r w', R r w' → R' r w') : elect_Elect_GotVote.Call e_1 from0 term granted w R' :=
  Calls.mono h fun e w' he => by
    obtain ⟨r, h1, h2⟩ := he
    exact ⟨r, h1, hr r w' h2⟩
def elect_Elect_GotVote.RV (R : Bool → World → Prop) (v : Value) (w : World) : Prop := match v with
  | .bool r => R r w
  | _ => False
theorem elect_Elect_GotVote.RV_elim {R : Bool → World → Prop} {v : Value} {w : World} (h : elect_Elect_GotVote.RV R v w) : ∃ r, Ending.returned v = .returned (.bool r) ∧ R r w := by
  unfold elect_Elect_GotVote.RV at h
  split at h
  · exact ⟨_, rfl, h⟩
  · exact h.elim
/-- (*e2e/elect.Elect).Heard -/
def elect_Elect_Heard.Call (e_1 : Option Addr) (from0 term : Int) (w : World) (R : Bool → World → Prop) : Prop :=
  Calls Tryz.prog 231 #[.pointer e_1, .int .i64 from0, .int .i64 term] w fun e w' => ∃ r, e = .returned (.bool r) ∧ R r w'
theorem elect_Elect_Heard.Call.mono {e_1 from0 term} {w : World} {R R' : Bool → World → Prop} (h : elect_Elect_Heard.Call e_1 from0 term w R) (hr : ∀ r w', R r w' → R' r w') : elect_Elect_Heard.Call e_1 from0 term w R' :=
  Calls.mono h fun e w' he => by
    obtain ⟨r, h1, h2⟩ := he
    exact ⟨r, h1, hr r w' h2⟩
def elect_Elect_Heard.RV (R : Bool → World → Prop) (v : Value) (w : World) : Prop := match v with
  | .bool r => R r w
  | _ => False
theorem elect_Elect_Heard.RV_elim {R : Bool → World → Prop} {v : Value} {w : World} (h : elect_Elect_Heard.RV R v w) : ∃ r, Ending.returned v = .returned (.bool r) ∧ R r w := by
  unfold elect_Elect_Heard.RV at h
  split at h
  · exact ⟨_, rfl, h⟩
  · exact h.elim
/-- (*e2e/sync.Sync).accept -/
def sync_Sync_accept.Call (s : Option Addr) (m0_0 m0_1 m0_2 m0_3 m0_4 m0_5 m0_6 : Int) (m0_7 : Bool) (m0_8_b : Option Addr) (m0_8_l m0_8_c : Nat) (m0_9 : ByteArray) (w : World) (R : Bool → Int → World → Prop) : Prop :=
  Calls Tryz.prog 232 #[.pointer s, .agg #[.int .i64 m0_0, .int .i64 m0_1, .int .i64 m0_2, .int .i64 m0_3, .int .i64 m0_4, .int .i64 m0_5, .int .i64 m0_6, .bool m0_7, .slice m0_8_b m0_8_l m0_8_c, .string m0_9]] w fun e w' => ∃ r0 r1, e = .returned (.tuple #[.bool r0, .int .i64 r1]) ∧ R r0 r1 w'
theorem sync_Sync_accept.Call.mono {s m0_0 m0_1 m0_2 m0_3 m0_4 m0_5 m0_6 m0_7 m0_8_b m0_8_l m0_8_c m0_9} {w : World} {R R' : Bool → Int → World → Prop} (h : sync_Sync_accept.Call s m0_0 m0_1 m0_2 m0_3 m0_4 m0_5 m0_6 m0_7 m0_8_b m0_8_l m0_8_c m0_9 w R) (hr : ∀ r0 r1 w', R r0 r1 w' → R' r0 r1 w') : sync_Sync_accept.Call s m0_0 m0_1 m0_2 m0_3 m0_4 m0_5 m0_6 m0_7 m0_8_b m0_8_l m0_8_c m0_9 w R' :=
  Calls.mono h fun e w' he => by
    obtain ⟨r0, r1, h1, h2⟩ := he
    exact ⟨r0, r1, h1, hr r0 r1 w' h2⟩
def sync_Sync_accept.RV (R : Bool → Int → World → Prop) (v : Value) (w : World) : Prop := match v with
  | .tuple ⟨[.bool r0, .int .i64 r1]⟩ => R r0 r1 w
  | _ => False
theorem sync_Sync_accept.RV_elim {R : Bool → Int → World → Prop} {v : Value} {w : World} (h : sync_Sync_accept.RV R v w) : ∃ r0 r1, Ending.returned v = .returned (.tuple #[.bool r0, .int .i64 r1]) ∧ R r0 r1 w := by
  unfold sync_Sync_accept.RV at h
  split at h
  · exact ⟨_, _, rfl, h⟩
  · exact h.elim
/-- (*e2e/rlog.Log).Install -/
def rlog_Log_Install.Call (l : Option Addr) (idx term : Int) (snap : ByteArray) (w : World) (R : Int → World → Prop) : Prop :=
  Calls Tryz.prog 233 #[.pointer l, .int .i64 idx, .int .i64 term, .string snap] w fun e w' => ∃ r, e = .returned (.int .i64 r) ∧ R r w'
theorem rlog_Log_Install.Call.mono {l idx term snap} {w : World} {R R' : Int → World → Prop} (h : rlog_Log_Install.Call l idx term snap w R) (hr : ∀ r w', R r w' → R' r w') : rlog_Log_Install.Call l idx term snap w R' :=
  Calls.mono h fun e w' he => by
    obtain ⟨r, h1, h2⟩ := he
    exact ⟨r, h1, hr r w' h2⟩
def rlog_Log_Install.RV (R : Int → World → Prop) (v : Value) (w : World) : Prop := match v with
  | .int .i64 r => R r w
  | _ => False
theorem rlog_Log_Install.RV_elim {R : Int → World → Prop} {v : Value} {w : World} (h : rlog_Log_Install.RV R v w) : ∃ r, Ending.returned v = .returned (.int .i64 r) ∧ R r w := by
  unfold rlog_Log_Install.RV at h
  split at h
  · exact ⟨_, rfl, h⟩
  · exact h.elim
/-- (*e2e/elect.Elect).See -/
def elect_Elect_See.Call (e_1 : Option Addr) (term : Int) (w : World) (R : Bool → World → Prop) : Prop :=
  Calls Tryz.prog 234 #[.pointer e_1, .int .i64 term] w fun e w' => ∃ r, e = .returned (.bool r) ∧ R r w'
theorem elect_Elect_See.Call.mono {e_1 term} {w : World} {R R' : Bool → World → Prop} (h : elect_Elect_See.Call e_1 term w R) (hr : ∀ r w', R r w' → R' r w') : elect_Elect_See.Call e_1 term w R' :=
  Calls.mono h fun e w' he => by
    obtain ⟨r, h1, h2⟩ := he
    exact ⟨r, h1, hr r w' h2⟩
def elect_Elect_See.RV (R : Bool → World → Prop) (v : Value) (w : World) : Prop := match v with
  | .bool r => R r w
  | _ => False
theorem elect_Elect_See.RV_elim {R : Bool → World → Prop} {v : Value} {w : World} (h : elect_Elect_See.RV R v w) : ∃ r, Ending.returned v = .returned (.bool r) ∧ R r w := by
  unfold elect_Elect_See.RV at h
  split at h
  · exact ⟨_, rfl, h⟩
  · exact h.elim
/-- (*e2e/sync.Sync).acked -/
def sync_Sync_acked.Call (s : Option Addr) (p index : Int) (w : World) (R : World → Prop) : Prop :=
  Calls Tryz.prog 235 #[.pointer s, .int .i64 p, .int .i64 index] w fun e w' => e = .returned (.tuple #[]) ∧ R w'
theorem sync_Sync_acked.Call.mono {s p index} {w : World} {R R' : World → Prop} (h : sync_Sync_acked.Call s p index w R) (hr : ∀ w', R w' → R'  w') : sync_Sync_acked.Call s p index w R' :=
  Calls.mono h fun e w' he => by
    obtain ⟨h1, h2⟩ := he
    exact ⟨h1, hr  w' h2⟩
def sync_Sync_acked.RV (R : World → Prop) (v : Value) (w : World) : Prop := match v with
  | .tuple ⟨[]⟩ => R w
  | _ => False
theorem sync_Sync_acked.RV_elim {R : World → Prop} {v : Value} {w : World} (h : sync_Sync_acked.RV R v w) : Ending.returned v = .returned (.tuple #[]) ∧ R w := by
  unfold sync_Sync_acked.RV at h
  split at h
  · exact ⟨rfl, h⟩
  · exact h.elim
/-- (*e2e/sync.Sync).refused -/
def sync_Sync_refused.Call (s : Option Addr) (p index : Int) (w : World) (R : World → Prop) : Prop :=
  Calls Tryz.prog 236 #[.pointer s, .int .i64 p, .int .i64 index] w fun e w' => e = .returned (.tuple #[]) ∧ R w'
theorem sync_Sync_refused.Call.mono {s p index} {w : World} {R R' : World → Prop} (h : sync_Sync_refused.Call s p index w R) (hr : ∀ w', R w' → R'  w') : sync_Sync_refused.Call s p index w R' :=
  Calls.mono h fun e w' he => by
    obtain ⟨h1, h2⟩ := he
    exact ⟨h1, hr  w' h2⟩
def sync_Sync_refused.RV (R : World → Prop) (v : Value) (w : World) : Prop := match v with
  | .tuple ⟨[]⟩ => R w
  | _ => False
theorem sync_Sync_refused.RV_elim {R : World → Prop} {v : Value} {w : World} (h : sync_Sync_refused.RV R v w) : Ending.returned v = .returned (.tuple #[]) ∧ R w := by
  unfold sync_Sync_refused.RV at h
  split at h
  · exact ⟨rfl, h⟩
  · exact h.elim
/-- (*e2e/rlog.Log).Append -/
def rlog_Log_Append.Call (l : Option Addr) (e_0 : Int) (e_1 : ByteArray) (w : World) (R : Int → World → Prop) : Prop :=
  Calls Tryz.prog 237 #[.pointer l, .agg #[.int .i64 e_0, .string e_1]] w fun e w' => ∃ r, e = .returned (.int .i64 r) ∧ R r w'
theorem rlog_Log_Append.Call.mono {l e_0 e_1} {w : World} {R R' : Int → World → Prop} (h : rlog_Log_Append.Call l e_0 e_1 w R) (hr : ∀ r w', R r w' → R' r w') : rlog_Log_Append.Call l e_0 e_1 w R' :=
  Calls.mono h fun e w' he => by
    obtain ⟨r, h1, h2⟩ := he
    exact ⟨r, h1, hr r w' h2⟩
def rlog_Log_Append.RV (R : Int → World → Prop) (v : Value) (w : World) : Prop := match v with
  | .int .i64 r => R r w
  | _ => False
theorem rlog_Log_Append.RV_elim {R : Int → World → Prop} {v : Value} {w : World} (h : rlog_Log_Append.RV R v w) : ∃ r, Ending.returned v = .returned (.int .i64 r) ∧ R r w := by
  unfold rlog_Log_Append.RV at h
  split at h
  · exact ⟨_, rfl, h⟩
  · exact h.elim
/-- (*e2e/rlogm.Log).SetTerm -/
def rlogm_Log_SetTerm.Call (l : Option Addr) (term vote : Int) (w : World) (R : Int → World → Prop) : Prop :=
  Calls Tryz.prog 238 #[.pointer l, .int .i64 term, .int .i64 vote] w fun e w' => ∃ r, e = .returned (.int .i64 r) ∧ R r w'
theorem rlogm_Log_SetTerm.Call.mono {l term vote} {w : World} {R R' : Int → World → Prop} (h : rlogm_Log_SetTerm.Call l term vote w R) (hr : ∀ r w', R r w' → R' r w') : rlogm_Log_SetTerm.Call l term vote w R' :=
  Calls.mono h fun e w' he => by
    obtain ⟨r, h1, h2⟩ := he
    exact ⟨r, h1, hr r w' h2⟩
def rlogm_Log_SetTerm.RV (R : Int → World → Prop) (v : Value) (w : World) : Prop := match v with
  | .int .i64 r => R r w
  | _ => False
theorem rlogm_Log_SetTerm.RV_elim {R : Int → World → Prop} {v : Value} {w : World} (h : rlogm_Log_SetTerm.RV R v w) : ∃ r, Ending.returned v = .returned (.int .i64 r) ∧ R r w := by
  unfold rlogm_Log_SetTerm.RV at h
  split at h
  · exact ⟨_, rfl, h⟩
  · exact h.elim
/-- (*e2e/rlogm.Log).At -/
def rlogm_Log_At.Call (l : Option Addr) (i : Int) (w : World) (R : Int → ByteArray → Int → World → Prop) : Prop :=
  Calls Tryz.prog 239 #[.pointer l, .int .i64 i] w fun e w' => ∃ r0_0 r0_1 r1, e = .returned (.tuple #[.agg #[.int .i64 r0_0, .string r0_1], .int .i64 r1]) ∧ R r0_0 r0_1 r1 w'
theorem rlogm_Log_At.Call.mono {l i} {w : World} {R R' : Int → ByteArray → Int → World → Prop} (h : rlogm_Log_At.Call l i w R) (hr : ∀ r0_0 r0_1 r1 w', R r0_0 r0_1 r1 w' → R' r0_0 r0_1 r1 w') : rlogm_Log_At.Call l i w R' :=
  Calls.mono h fun e w' he => by
    obtain ⟨r0_0, r0_1, r1, h1, h2⟩ := he
    exact ⟨r0_0, r0_1, r1, h1, hr r0_0 r0_1 r1 w' h2⟩
def rlogm_Log_At.RV (R : Int → ByteArray → Int → World → Prop) (v : Value) (w : World) : Prop := match v with
  | .tuple ⟨[.agg ⟨[.int .i64 r0_0, .string r0_1]⟩, .int .i64 r1]⟩ => R r0_0 r0_1 r1 w
  | _ => False
theorem rlogm_Log_At.RV_elim {R : Int → ByteArray → Int → World → Prop} {v : Value} {w : World} (h : rlogm_Log_At.RV R v w) : ∃ r0_0 r0_1 r1, Ending.returned v = .returned (.tuple #[.agg #[.int .i64 r0_0, .string r0_1], .int .i64 r1]) ∧ R r0_0 r0_1 r1 w := by
  unfold rlogm_Log_At.RV at h
  split at h
  · exact ⟨_, _, _, rfl, h⟩
  · exact h.elim
/-- e2e/kvm.str -/
def kvm_str.Call (b_b : Option Addr) (b_l b_c : Nat) (s : ByteArray) (w : World) (R : Option Addr → Nat → Nat → World → Prop) : Prop :=
  Calls Tryz.prog 240 #[.slice b_b b_l b_c, .string s] w fun e w' => ∃ r_b r_l r_c, e = .returned (.slice r_b r_l r_c) ∧ R r_b r_l r_c w'
theorem kvm_str.Call.mono {b_b b_l b_c s} {w : World} {R R' : Option Addr → Nat → Nat → World → Prop} (h : kvm_str.Call b_b b_l b_c s w R) (hr : ∀ r_b r_l r_c w', R r_b r_l r_c w' → R' r_b r_l r_c w') : kvm_str.Call b_b b_l b_c s w R' :=
  Calls.mono h fun e w' he => by
    obtain ⟨r_b, r_l, r_c, h1, h2⟩ := he
    exact ⟨r_b, r_l, r_c, h1, hr r_b r_l r_c w' h2⟩
def kvm_str.RV (R : Option Addr → Nat → Nat → World → Prop) (v : Value) (w : World) : Prop := match v with
  | .slice r_b r_l r_c => R r_b r_l r_c w
  | _ => False
theorem kvm_str.RV_elim {R : Option Addr → Nat → Nat → World → Prop} {v : Value} {w : World} (h : kvm_str.RV R v w) : ∃ r_b r_l r_c, Ending.returned v = .returned (.slice r_b r_l r_c) ∧ R r_b r_l r_c w := by
  unfold kvm_str.RV at h
  split at h
  · exact ⟨_, _, _, rfl, h⟩
  · exact h.elim
/-- (*e2e/rlogm.Log).Compact -/
def rlogm_Log_Compact.Call (l : Option Addr) (upTo : Int) (snap : ByteArray) (w : World) (R : Int → World → Prop) : Prop :=
  Calls Tryz.prog 241 #[.pointer l, .int .i64 upTo, .string snap] w fun e w' => ∃ r, e = .returned (.int .i64 r) ∧ R r w'
theorem rlogm_Log_Compact.Call.mono {l upTo snap} {w : World} {R R' : Int → World → Prop} (h : rlogm_Log_Compact.Call l upTo snap w R) (hr : ∀ r w', R r w' → R' r w') : rlogm_Log_Compact.Call l upTo snap w R' :=
  Calls.mono h fun e w' he => by
    obtain ⟨r, h1, h2⟩ := he
    exact ⟨r, h1, hr r w' h2⟩
def rlogm_Log_Compact.RV (R : Int → World → Prop) (v : Value) (w : World) : Prop := match v with
  | .int .i64 r => R r w
  | _ => False
theorem rlogm_Log_Compact.RV_elim {R : Int → World → Prop} {v : Value} {w : World} (h : rlogm_Log_Compact.RV R v w) : ∃ r, Ending.returned v = .returned (.int .i64 r) ∧ R r w := by
  unfold rlogm_Log_Compact.RV at h
  split at h
  · exact ⟨_, rfl, h⟩
  · exact h.elim
/-- (*e2e/kvm.KV).run -/
def kvm_KV_run.Call (k : Option Addr) (c_0 c_1 c_2 : Int) (c_3 c_4 c_5 : ByteArray) (w : World) (R : Int → ByteArray → World → Prop) : Prop :=
  Calls Tryz.prog 242 #[.pointer k, .agg #[.int .i64 c_0, .int .i64 c_1, .int .i64 c_2, .string c_3, .string c_4, .string c_5]] w fun e w' => ∃ r_0 r_1, e = .returned (.agg #[.int .i64 r_0, .string r_1]) ∧ R r_0 r_1 w'
theorem kvm_KV_run.Call.mono {k c_0 c_1 c_2 c_3 c_4 c_5} {w : World} {R R' : Int → ByteArray → World → Prop} (h : kvm_KV_run.Call k c_0 c_1 c_2 c_3 c_4 c_5 w R) (hr : ∀ r_0 r_1 w', R r_0 r_1 w' → R' r_0 r_1 w') : kvm_KV_run.Call k c_0 c_1 c_2 c_3 c_4 c_5 w R' :=
  Calls.mono h fun e w' he => by
    obtain ⟨r_0, r_1, h1, h2⟩ := he
    exact ⟨r_0, r_1, h1, hr r_0 r_1 w' h2⟩
def kvm_KV_run.RV (R : Int → ByteArray → World → Prop) (v : Value) (w : World) : Prop := match v with
  | .agg ⟨[.int .i64 r_0, .string r_1]⟩ => R r_0 r_1 w
  | _ => False
theorem kvm_KV_run.RV_elim {R : Int → ByteArray → World → Prop} {v : Value} {w : World} (h : kvm_KV_run.RV R v w) : ∃ r_0 r_1, Ending.returned v = .returned (.agg #[.int .i64 r_0, .string r_1]) ∧ R r_0 r_1 w := by
  unfold kvm_KV_run.RV at h
  split at h
  · exact ⟨_, _, rfl, h⟩
  · exact h.elim
/-- (*e2e/electm.Elect).peer -/
def electm_Elect_peer.Call (e_1 : Option Addr) (p : Int) (w : World) (R : Bool → World → Prop) : Prop :=
  Calls Tryz.prog 243 #[.pointer e_1, .int .i64 p] w fun e w' => ∃ r, e = .returned (.bool r) ∧ R r w'
theorem electm_Elect_peer.Call.mono {e_1 p} {w : World} {R R' : Bool → World → Prop} (h : electm_Elect_peer.Call e_1 p w R) (hr : ∀ r w', R r w' → R' r w') : electm_Elect_peer.Call e_1 p w R' :=
  Calls.mono h fun e w' he => by
    obtain ⟨r, h1, h2⟩ := he
    exact ⟨r, h1, hr r w' h2⟩
def electm_Elect_peer.RV (R : Bool → World → Prop) (v : Value) (w : World) : Prop := match v with
  | .bool r => R r w
  | _ => False
theorem electm_Elect_peer.RV_elim {R : Bool → World → Prop} {v : Value} {w : World} (h : electm_Elect_peer.RV R v w) : ∃ r, Ending.returned v = .returned (.bool r) ∧ R r w := by
  unfold electm_Elect_peer.RV at h
  split at h
  · exact ⟨_, rfl, h⟩
  · exact h.elim
/-- (*e2e/rlogm.Log).step -/
def rlogm_Log_step.Call (l : Option Addr) (w : World) (R : World → Prop) : Prop :=
  Calls Tryz.prog 244 #[.pointer l] w fun e w' => e = .returned (.tuple #[]) ∧ R w'
theorem rlogm_Log_step.Call.mono {l} {w : World} {R R' : World → Prop} (h : rlogm_Log_step.Call l w R) (hr : ∀ w', R w' → R'  w') : rlogm_Log_step.Call l w R' :=
  Calls.mono h fun e w' he => by
    obtain ⟨h1, h2⟩ := he
    exact ⟨h1, hr  w' h2⟩
def rlogm_Log_step.RV (R : World → Prop) (v : Value) (w : World) : Prop := match v with
  | .tuple ⟨[]⟩ => R w
  | _ => False
theorem rlogm_Log_step.RV_elim {R : World → Prop} {v : Value} {w : World} (h : rlogm_Log_step.RV R v w) : Ending.returned v = .returned (.tuple #[]) ∧ R w := by
  unfold rlogm_Log_step.RV at h
  split at h
  · exact ⟨rfl, h⟩
  · exact h.elim
/-- (*e2e/rlogm.Log).TruncateFrom -/
def rlogm_Log_TruncateFrom.Call (l : Option Addr) (i : Int) (w : World) (R : Int → World → Prop) : Prop :=
  Calls Tryz.prog 245 #[.pointer l, .int .i64 i] w fun e w' => ∃ r, e = .returned (.int .i64 r) ∧ R r w'
theorem rlogm_Log_TruncateFrom.Call.mono {l i} {w : World} {R R' : Int → World → Prop} (h : rlogm_Log_TruncateFrom.Call l i w R) (hr : ∀ r w', R r w' → R' r w') : rlogm_Log_TruncateFrom.Call l i w R' :=
  Calls.mono h fun e w' he => by
    obtain ⟨r, h1, h2⟩ := he
    exact ⟨r, h1, hr r w' h2⟩
def rlogm_Log_TruncateFrom.RV (R : Int → World → Prop) (v : Value) (w : World) : Prop := match v with
  | .int .i64 r => R r w
  | _ => False
theorem rlogm_Log_TruncateFrom.RV_elim {R : Int → World → Prop} {v : Value} {w : World} (h : rlogm_Log_TruncateFrom.RV R v w) : ∃ r, Ending.returned v = .returned (.int .i64 r) ∧ R r w := by
  unfold rlogm_Log_TruncateFrom.RV at h
  split at h
  · exact ⟨_, rfl, h⟩
  · exact h.elim
/-- (*e2e/rlogm.Log).rebase -/
def rlogm_Log_rebase.Call (l : Option Addr) (idx term : Int) (snap : ByteArray) (w : World) (R : World → Prop) : Prop :=
  Calls Tryz.prog 246 #[.pointer l, .int .i64 idx, .int .i64 term, .string snap] w fun e w' => e = .returned (.tuple #[]) ∧ R w'
theorem rlogm_Log_rebase.Call.mono {l idx term snap} {w : World} {R R' : World → Prop} (h : rlogm_Log_rebase.Call l idx term snap w R) (hr : ∀ w', R w' → R'  w') : rlogm_Log_rebase.Call l idx term snap w R' :=
  Calls.mono h fun e w' he => by
    obtain ⟨h1, h2⟩ := he
    exact ⟨h1, hr  w' h2⟩
def rlogm_Log_rebase.RV (R : World → Prop) (v : Value) (w : World) : Prop := match v with
  | .tuple ⟨[]⟩ => R w
  | _ => False
theorem rlogm_Log_rebase.RV_elim {R : World → Prop} {v : Value} {w : World} (h : rlogm_Log_rebase.RV R v w) : Ending.returned v = .returned (.tuple #[]) ∧ R w := by
  unfold rlogm_Log_rebase.RV at h
  split at h
  · exact ⟨rfl, h⟩
  · exact h.elim
/-- (*e2e/rlogm.Log).pop -/
def rlogm_Log_pop.Call (l : Option Addr) (w : World) (R : World → Prop) : Prop :=
  Calls Tryz.prog 247 #[.pointer l] w fun e w' => e = .returned (.tuple #[]) ∧ R w'
theorem rlogm_Log_pop.Call.mono {l} {w : World} {R R' : World → Prop} (h : rlogm_Log_pop.Call l w R) (hr : ∀ w', R w' → R'  w') : rlogm_Log_pop.Call l w R' :=
  Calls.mono h fun e w' he => by
    obtain ⟨h1, h2⟩ := he
    exact ⟨h1, hr  w' h2⟩
def rlogm_Log_pop.RV (R : World → Prop) (v : Value) (w : World) : Prop := match v with
  | .tuple ⟨[]⟩ => R w
  | _ => False
theorem rlogm_Log_pop.RV_elim {R : World → Prop} {v : Value} {w : World} (h : rlogm_Log_pop.RV R v w) : Ending.returned v = .returned (.tuple #[]) ∧ R w := by
  unfold rlogm_Log_pop.RV at h
  split at h
  · exact ⟨rfl, h⟩
  · exact h.elim
/-- (*e2e/rlog.Log).At -/
def rlog_Log_At.Call (l : Option Addr) (i : Int) (w : World) (R : Int → ByteArray → Int → World → Prop) : Prop :=
  Calls Tryz.prog 248 #[.pointer l, .int .i64 i] w fun e w' => ∃ r0_0 r0_1 r1, e = .returned (.tuple #[.agg #[.int .i64 r0_0, .string r0_1], .int .i64 r1]) ∧ R r0_0 r0_1 r1 w'
theorem rlog_Log_At.Call.mono {l i} {w : World} {R R' : Int → ByteArray → Int → World → Prop} (h : rlog_Log_At.Call l i w R) (hr : ∀ r0_0 r0_1 r1 w', R r0_0 r0_1 r1 w' → R' r0_0 r0_1 r1 w') : rlog_Log_At.Call l i w R' :=
  Calls.mono h fun e w' he => by
    obtain ⟨r0_0, r0_1, r1, h1, h2⟩ := he
    exact ⟨r0_0, r0_1, r1, h1, hr r0_0 r0_1 r1 w' h2⟩
def rlog_Log_At.RV (R : Int → ByteArray → Int → World → Prop) (v : Value) (w : World) : Prop := match v with
  | .tuple ⟨[.agg ⟨[.int .i64 r0_0, .string r0_1]⟩, .int .i64 r1]⟩ => R r0_0 r0_1 r1 w
  | _ => False
theorem rlog_Log_At.RV_elim {R : Int → ByteArray → Int → World → Prop} {v : Value} {w : World} (h : rlog_Log_At.RV R v w) : ∃ r0_0 r0_1 r1, Ending.returned v = .returned (.tuple #[.agg #[.int .i64 r0_0, .string r0_1], .int .i64 r1]) ∧ R r0_0 r0_1 r1 w := by
  unfold rlog_Log_At.RV at h
  split at h
  · exact ⟨_, _, _, rfl, h⟩
  · exact h.elim
/-- (*e2e/kv.table).find -/
def kv_table_find.Call (t : Option Addr) (key : ByteArray) (w : World) (R : Int → World → Prop) : Prop :=
  Calls Tryz.prog 249 #[.pointer t, .string key] w fun e w' => ∃ r, e = .returned (.int .i64 r) ∧ R r w'
theorem kv_table_find.Call.mono {t key} {w : World} {R R' : Int → World → Prop} (h : kv_table_find.Call t key w R) (hr : ∀ r w', R r w' → R' r w') : kv_table_find.Call t key w R' :=
  Calls.mono h fun e w' he => by
    obtain ⟨r, h1, h2⟩ := he
    exact ⟨r, h1, hr r w' h2⟩
def kv_table_find.RV (R : Int → World → Prop) (v : Value) (w : World) : Prop := match v with
  | .int .i64 r => R r w
  | _ => False
theorem kv_table_find.RV_elim {R : Int → World → Prop} {v : Value} {w : World} (h : kv_table_find.RV R v w) : ∃ r, Ending.returned v = .returned (.int .i64 r) ∧ R r w := by
  unfold kv_table_find.RV at h
  split at h
  · exact ⟨_, rfl, h⟩
  · exact h.elim
/-- e2e/kv.valOf -/
def kv_valOf.Call (c_0 c_1 c_2 c_3 c_4 c_5 c_6 c_7 : Int) (w : World) (R : ByteArray → World → Prop) : Prop :=
  Calls Tryz.prog 250 #[.agg #[.int .i64 c_0, .int .i64 c_1, .int .u8 c_2, .int .u8 c_3, .int .i64 c_4, .int .u8 c_5, .int .u8 c_6, .int .u8 c_7]] w fun e w' => ∃ r, e = .returned (.string r) ∧ R r w'
theorem kv_valOf.Call.mono {c_0 c_1 c_2 c_3 c_4 c_5 c_6 c_7} {w : World} {R R' : ByteArray → World → Prop} (h : kv_valOf.Call c_0 c_1 c_2 c_3 c_4 c_5 c_6 c_7 w R) (hr : ∀ r w', R r w' → R' r w') : kv_valOf.Call c_0 c_1 c_2 c_3 c_4 c_5 c_6 c_7 w R' :=
  Calls.mono h fun e w' he => by
    obtain ⟨r, h1, h2⟩ := he
    exact ⟨r, h1, hr r w' h2⟩
def kv_valOf.RV (R : ByteArray → World → Prop) (v : Value) (w : World) : Prop := match v with
  | .string r => R r w
  | _ => False
theorem kv_valOf.RV_elim {R : ByteArray → World → Prop} {v : Value} {w : World} (h : kv_valOf.RV R v w) : ∃ r, Ending.returned v = .returned (.string r) ∧ R r w := by
  unfold kv_valOf.RV at h
  split at h
  · exact ⟨_, rfl, h⟩
  · exact h.elim
/-- (*e2e/kvm.KV).find -/
def kvm_KV_find.Call (k : Option Addr) (key : ByteArray) (w : World) (R : Int → World → Prop) : Prop :=
  Calls Tryz.prog 251 #[.pointer k, .string key] w fun e w' => ∃ r, e = .returned (.int .i64 r) ∧ R r w'
theorem kvm_KV_find.Call.mono {k key} {w : World} {R R' : Int → World → Prop} (h : kvm_KV_find.Call k key w R) (hr : ∀ r w', R r w' → R' r w') : kvm_KV_find.Call k key w R' :=
  Calls.mono h fun e w' he => by
    obtain ⟨r, h1, h2⟩ := he
    exact ⟨r, h1, hr r w' h2⟩
def kvm_KV_find.RV (R : Int → World → Prop) (v : Value) (w : World) : Prop := match v with
  | .int .i64 r => R r w
  | _ => False
theorem kvm_KV_find.RV_elim {R : Int → World → Prop} {v : Value} {w : World} (h : kvm_KV_find.RV R v w) : ∃ r, Ending.returned v = .returned (.int .i64 r) ∧ R r w := by
  unfold kvm_KV_find.RV at h
  split at h
  · exact ⟨_, rfl, h⟩
  · exact h.elim
/-- (*e2e/kv.table).sorted -/
def kv_table_sorted.Call (t : Option Addr) (w : World) (R : Int → Int → Int → Int → World → Prop) : Prop :=
  Calls Tryz.prog 252 #[.pointer t] w fun e w' => ∃ r_0 r_1 r_2 r_3, e = .returned (.agg #[.int .i64 r_0, .int .i64 r_1, .int .i64 r_2, .int .i64 r_3]) ∧ R r_0 r_1 r_2 r_3 w'
theorem kv_table_sorted.Call.mono {t} {w : World} {R R' : Int → Int → Int → Int → World → Prop} (h : kv_table_sorted.Call t w R) (hr : ∀ r_0 r_1 r_2 r_3 w', R r_0 r_1 r_2 r_3 w' → R' r_0 r_1 r_2 r_3 w') : kv_table_sorted.Call t w R' :=
  Calls.mono h fun e w' he => by
    obtain ⟨r_0, r_1, r_2, r_3, h1, h2⟩ := he
    exact ⟨r_0, r_1, r_2, r_3, h1, hr r_0 r_1 r_2 r_3 w' h2⟩
def kv_table_sorted.RV (R : Int → Int → Int → Int → World → Prop) (v : Value) (w : World) : Prop := match v with
  | .agg ⟨[.int .i64 r_0, .int .i64 r_1, .int .i64 r_2, .int .i64 r_3]⟩ => R r_0 r_1 r_2 r_3 w
  | _ => False
theorem kv_table_sorted.RV_elim {R : Int → Int → Int → Int → World → Prop} {v : Value} {w : World} (h : kv_table_sorted.RV R v w) : ∃ r_0 r_1 r_2 r_3, Ending.returned v = .returned (.agg #[.int .i64 r_0, .int .i64 r_1, .int .i64 r_2, .int .i64 r_3]) ∧ R r_0 r_1 r_2 r_3 w := by
  unfold kv_table_sorted.RV at h
  split at h
  · exact ⟨_, _, _, _, rfl, h⟩
  · exact h.elim
/-- e2e/kv.keyOf -/
def kv_keyOf.Call (c_0 c_1 c_2 c_3 c_4 c_5 c_6 c_7 : Int) (w : World) (R : ByteArray → World → Prop) : Prop :=
  Calls Tryz.prog 253 #[.agg #[.int .i64 c_0, .int .i64 c_1, .int .u8 c_2, .int .u8 c_3, .int .i64 c_4, .int .u8 c_5, .int .u8 c_6, .int .u8 c_7]] w fun e w' => ∃ r, e = .returned (.string r) ∧ R r w'
theorem kv_keyOf.Call.mono {c_0 c_1 c_2 c_3 c_4 c_5 c_6 c_7} {w : World} {R R' : ByteArray → World → Prop} (h : kv_keyOf.Call c_0 c_1 c_2 c_3 c_4 c_5 c_6 c_7 w R) (hr : ∀ r w', R r w' → R' r w') : kv_keyOf.Call c_0 c_1 c_2 c_3 c_4 c_5 c_6 c_7 w R' :=
  Calls.mono h fun e w' he => by
    obtain ⟨r, h1, h2⟩ := he
    exact ⟨r, h1, hr r w' h2⟩
def kv_keyOf.RV (R : ByteArray → World → Prop) (v : Value) (w : World) : Prop := match v with
  | .string r => R r w
  | _ => False
theorem kv_keyOf.RV_elim {R : ByteArray → World → Prop} {v : Value} {w : World} (h : kv_keyOf.RV R v w) : ∃ r, Ending.returned v = .returned (.string r) ∧ R r w := by
  unfold kv_keyOf.RV at h
  split at h
  · exact ⟨_, rfl, h⟩
  · exact h.elim
/-- e2e/kv.ansOf -/
def kv_ansOf.Call (s_0 s_1 s_2 s_3 s_4 s_5 : Int) (w : World) (R : Int → ByteArray → World → Prop) : Prop :=
  Calls Tryz.prog 254 #[.agg #[.int .i64 s_0, .int .i64 s_1, .int .i64 s_2, .int .u8 s_3, .int .u8 s_4, .int .u8 s_5]] w fun e w' => ∃ r_0 r_1, e = .returned (.agg #[.int .i64 r_0, .string r_1]) ∧ R r_0 r_1 w'
theorem kv_ansOf.Call.mono {s_0 s_1 s_2 s_3 s_4 s_5} {w : World} {R R' : Int → ByteArray → World → Prop} (h : kv_ansOf.Call s_0 s_1 s_2 s_3 s_4 s_5 w R) (hr : ∀ r_0 r_1 w', R r_0 r_1 w' → R' r_0 r_1 w') : kv_ansOf.Call s_0 s_1 s_2 s_3 s_4 s_5 w R' :=
  Calls.mono h fun e w' he => by
    obtain ⟨r_0, r_1, h1, h2⟩ := he
    exact ⟨r_0, r_1, h1, hr r_0 r_1 w' h2⟩
def kv_ansOf.RV (R : Int → ByteArray → World → Prop) (v : Value) (w : World) : Prop := match v with
  | .agg ⟨[.int .i64 r_0, .string r_1]⟩ => R r_0 r_1 w
  | _ => False
theorem kv_ansOf.RV_elim {R : Int → ByteArray → World → Prop} {v : Value} {w : World} (h : kv_ansOf.RV R v w) : ∃ r_0 r_1, Ending.returned v = .returned (.agg #[.int .i64 r_0, .string r_1]) ∧ R r_0 r_1 w := by
  unfold kv_ansOf.RV at h
  split at h
  · exact ⟨_, _, rfl, h⟩
  · exact h.elim
/-- e2e/node.fits -/
def node_fits.Call (m0_0 m0_1 m0_2 m0_3 m0_4 m0_5 m0_6 : Int) (m0_7 : Bool) (m0_8_b : Option Addr) (m0_8_l m0_8_c : Nat) (m0_9 : ByteArray) (w : World) (R : Bool → World → Prop) : Prop :=
  Calls Tryz.prog 255 #[.agg #[.int .i64 m0_0, .int .i64 m0_1, .int .i64 m0_2, .int .i64 m0_3, .int .i64 m0_4, .int .i64 m0_5, .int .i64 m0_6, .bool m0_7, .slice m0_8_b m0_8_l m0_8_c, .string m0_9]] w fun e w' => ∃ r, e = .returned (.bool r) ∧ R r w'
theorem node_fits.Call.mono {m0_0 m0_1 m0_2 m0_3 m0_4 m0_5 m0_6 m0_7 m0_8_b m0_8_l m0_8_c m0_9} {w : World} {R R' : Bool → World → Prop} (h : node_fits.Call m0_0 m0_1 m0_2 m0_3 m0_4 m0_5 m0_6 m0_7 m0_8_b m0_8_l m0_8_c m0_9 w R) (hr : ∀ r w', R r w' → R' r w') : node_fits.Call m0_0 m0_1 m0_2 m0_3 m0_4 m0_5 m0_6 m0_7 m0_8_b m0_8_l m0_8_c m0_9 w R' :=
  Calls.mono h fun e w' he => by
    obtain ⟨r, h1, h2⟩ := he
    exact ⟨r, h1, hr r w' h2⟩
def node_fits.RV (R : Bool → World → Prop) (v : Value) (w : World) : Prop := match v with
  | .bool r => R r w
  | _ => False
theorem node_fits.RV_elim {R : Bool → World → Prop} {v : Value} {w : World} (h : node_fits.RV R v w) : ∃ r, Ending.returned v = .returned (.bool r) ∧ R r w := by
  unfold node_fits.RV at h
  split at h
  · exact ⟨_, rfl, h⟩
  · exact h.elim
/-- (*e2e/node.enc).put -/
def node_enc_put.Call (w0 : Option Addr) (b : Int) (w : World) (R : World → Prop) : Prop :=
  Calls Tryz.prog 256 #[.pointer w0, .int .u8 b] w fun e w' => e = .returned (.tuple #[]) ∧ R w'
theorem node_enc_put.Call.mono {w0 b} {w : World} {R R' : World → Prop} (h : node_enc_put.Call w0 b w R) (hr : ∀ w', R w' → R'  w') : node_enc_put.Call w0 b w R' :=
  Calls.mono h fun e w' he => by
    obtain ⟨h1, h2⟩ := he
    exact ⟨h1, hr  w' h2⟩
def node_enc_put.RV (R : World → Prop) (v : Value) (w : World) : Prop := match v with
  | .tuple ⟨[]⟩ => R w
  | _ => False
theorem node_enc_put.RV_elim {R : World → Prop} {v : Value} {w : World} (h : node_enc_put.RV R v w) : Ending.returned v = .returned (.tuple #[]) ∧ R w := by
  unfold node_enc_put.RV at h
  split at h
  · exact ⟨rfl, h⟩
  · exact h.elim
/-- (*e2e/node.enc).num -/
def node_enc_num.Call (w0 : Option Addr) (v_1 : Int) (w : World) (R : World → Prop) : Prop :=
  Calls Tryz.prog 257 #[.pointer w0, .int .i64 v_1] w fun e w' => e = .returned (.tuple #[]) ∧ R w'
theorem node_enc_num.Call.mono {w0 v_1} {w : World} {R R' : World → Prop} (h : node_enc_num.Call w0 v_1 w R) (hr : ∀ w', R w' → R'  w') : node_enc_num.Call w0 v_1 w R' :=
  Calls.mono h fun e w' he => by
    obtain ⟨h1, h2⟩ := he
    exact ⟨h1, hr  w' h2⟩
def node_enc_num.RV (R : World → Prop) (v : Value) (w : World) : Prop := match v with
  | .tuple ⟨[]⟩ => R w
  | _ => False
theorem node_enc_num.RV_elim {R : World → Prop} {v : Value} {w : World} (h : node_enc_num.RV R v w) : Ending.returned v = .returned (.tuple #[]) ∧ R w := by
  unfold node_enc_num.RV at h
  split at h
  · exact ⟨rfl, h⟩
  · exact h.elim
/-- (*e2e/node.enc).text -/
def node_enc_text.Call (w0 : Option Addr) (s : ByteArray) (w : World) (R : World → Prop) : Prop :=
  Calls Tryz.prog 258 #[.pointer w0, .string s] w fun e w' => e = .returned (.tuple #[]) ∧ R w'
theorem node_enc_text.Call.mono {w0 s} {w : World} {R R' : World → Prop} (h : node_enc_text.Call w0 s w R) (hr : ∀ w', R w' → R'  w') : node_enc_text.Call w0 s w R' :=
  Calls.mono h fun e w' he => by
    obtain ⟨h1, h2⟩ := he
    exact ⟨h1, hr  w' h2⟩
def node_enc_text.RV (R : World → Prop) (v : Value) (w : World) : Prop := match v with
  | .tuple ⟨[]⟩ => R w
  | _ => False
theorem node_enc_text.RV_elim {R : World → Prop} {v : Value} {w : World} (h : node_enc_text.RV R v w) : Ending.returned v = .returned (.tuple #[]) ∧ R w := by
  unfold node_enc_text.RV at h
  split at h
  · exact ⟨rfl, h⟩
  · exact h.elim
/-- (*e2e/kv.table).room -/
def kv_table_room.Call (t : Option Addr) (key : ByteArray) (w : World) (R : Int → World → Prop) : Prop :=
  Calls Tryz.prog 259 #[.pointer t, .string key] w fun e w' => ∃ r, e = .returned (.int .i64 r) ∧ R r w'
theorem kv_table_room.Call.mono {t key} {w : World} {R R' : Int → World → Prop} (h : kv_table_room.Call t key w R) (hr : ∀ r w', R r w' → R' r w') : kv_table_room.Call t key w R' :=
  Calls.mono h fun e w' he => by
    obtain ⟨r, h1, h2⟩ := he
    exact ⟨r, h1, hr r w' h2⟩
def kv_table_room.RV (R : Int → World → Prop) (v : Value) (w : World) : Prop := match v with
  | .int .i64 r => R r w
  | _ => False
theorem kv_table_room.RV_elim {R : Int → World → Prop} {v : Value} {w : World} (h : kv_table_room.RV R v w) : ∃ r, Ending.returned v = .returned (.int .i64 r) ∧ R r w := by
  unfold kv_table_room.RV at h
  split at h
  · exact ⟨_, rfl, h⟩
  · exact h.elim
/-- e2e/kv.mkCell -/
def kv_mkCell.Call (key val : ByteArray) (w : World) (R : Int → Int → Int → Int → Int → Int → Int → Int → World → Prop) : Prop :=
  Calls Tryz.prog 260 #[.string key, .string val] w fun e w' => ∃ r_0 r_1 r_2 r_3 r_4 r_5 r_6 r_7, e = .returned (.agg #[.int .i64 r_0, .int .i64 r_1, .int .u8 r_2, .int .u8 r_3, .int .i64 r_4, .int .u8 r_5, .int .u8 r_6, .int .u8 r_7]) ∧ R r_0 r_1 r_2 r_3 r_4 r_5 r_6 r_7 w'
theorem kv_mkCell.Call.mono {key val} {w : World} {R R' : Int → Int → Int → Int → Int → Int → Int → Int → World → Prop} (h : kv_mkCell.Call key val w R) (hr : ∀ r_0 r_1 r_2 r_3 r_4 r_5 r_6 r_7 w', R r_0 r_1 r_2 r_3 r_4 r_5 r_6 r_7 w' → R' r_0 r_1 r_2 r_3 r_4 r_5 r_6 r_7 w') : kv_mkCell.Call key val w R' :=
  Calls.mono h fun e w' he => by
    obtain ⟨r_0, r_1, r_2, r_3, r_4, r_5, r_6, r_7, h1, h2⟩ := he
    exact ⟨r_0, r_1, r_2, r_3, r_4, r_5, r_6, r_7, h1, hr r_0 r_1 r_2 r_3 r_4 r_5 r_6 r_7 w' h2⟩
def kv_mkCell.RV (R : Int → Int → Int → Int → Int → Int → Int → Int → World → Prop) (v : Value) (w : World) : Prop := match v with
  | .agg ⟨[.int .i64 r_0, .int .i64 r_1, .int .u8 r_2, .int .u8 r_3, .int .i64 r_4, .int .u8 r_5, .int .u8 r_6, .int .u8 r_7]⟩ => R r_0 r_1 r_2 r_3 r_4 r_5 r_6 r_7 w
  | _ => False
theorem kv_mkCell.RV_elim {R : Int → Int → Int → Int → Int → Int → Int → Int → World → Prop} {v : Value} {w : World} (h : kv_mkCell.RV R v w) : ∃ r_0 r_1 r_2 r_3 r_4 r_5 r_6 r_7, Ending.returned v = .returned (.agg #[.int .i64 r_0, .int .i64 r_1, .int .u8 r_2, .int .u8 r_3, .int .i64 r_4, .int .u8 r_5, .int .u8 r_6, .int .u8 r_7]) ∧ R r_0 r_1 r_2 r_3 r_4 r_5 r_6 r_7 w := by
  unfold kv_mkCell.RV at h
  split at h
  · exact ⟨_, _, _, _, _, _, _, _, rfl, h⟩
  · exact h.elim
/-- (*e2e/kv.table).rebuild -/
def kv_table_rebuild.Call (t : Option Addr) (w : World) (R : World → Prop) : Prop :=
  Calls Tryz.prog 261 #[.pointer t] w fun e w' => e = .returned (.tuple #[]) ∧ R w'
theorem kv_table_rebuild.Call.mono {t} {w : World} {R R' : World → Prop} (h : kv_table_rebuild.Call t w R) (hr : ∀ w', R w' → R'  w') : kv_table_rebuild.Call t w R' :=
  Calls.mono h fun e w' he => by
    obtain ⟨h1, h2⟩ := he
    exact ⟨h1, hr  w' h2⟩
def kv_table_rebuild.RV (R : World → Prop) (v : Value) (w : World) : Prop := match v with
  | .tuple ⟨[]⟩ => R w
  | _ => False
theorem kv_table_rebuild.RV_elim {R : World → Prop} {v : Value} {w : World} (h : kv_table_rebuild.RV R v w) : Ending.returned v = .returned (.tuple #[]) ∧ R w := by
  unfold kv_table_rebuild.RV at h
  split at h
  · exact ⟨rfl, h⟩
  · exact h.elim
/-- (*e2e/store.Store).write -/
def store_Store_write.Call (t : Option Addr) (b : Int) (x_b : Option Addr) (x_l x_c : Nat) (w : World) (R : World → Prop) : Prop :=
  Calls Tryz.prog 262 #[.pointer t, .int .i64 b, .slice x_b x_l x_c] w fun e w' => e = .returned (.tuple #[]) ∧ R w'
theorem store_Store_write.Call.mono {t b x_b x_l x_c} {w : World} {R R' : World → Prop} (h : store_Store_write.Call t b x_b x_l x_c w R) (hr : ∀ w', R w' → R'  w') : store_Store_write.Call t b x_b x_l x_c w R' :=
  Calls.mono h fun e w' he => by
    obtain ⟨h1, h2⟩ := he
    exact ⟨h1, hr  w' h2⟩
def store_Store_write.RV (R : World → Prop) (v : Value) (w : World) : Prop := match v with
  | .tuple ⟨[]⟩ => R w
  | _ => False
theorem store_Store_write.RV_elim {R : World → Prop} {v : Value} {w : World} (h : store_Store_write.RV R v w) : Ending.returned v = .returned (.tuple #[]) ∧ R w := by
  unfold store_Store_write.RV at h
  split at h
  · exact ⟨rfl, h⟩
  · exact h.elim
/-- (*e2e/store.Store).SetMeta -/
def store_Store_SetMeta.Call (t : Option Addr) (term vote : Int) (w : World) (R : Int → World → Prop) : Prop :=
  Calls Tryz.prog 263 #[.pointer t, .int .i64 term, .int .i64 vote] w fun e w' => ∃ r, e = .returned (.int .i64 r) ∧ R r w'
theorem store_Store_SetMeta.Call.mono {t term vote} {w : World} {R R' : Int → World → Prop} (h : store_Store_SetMeta.Call t term vote w R) (hr : ∀ r w', R r w' → R' r w') : store_Store_SetMeta.Call t term vote w R' :=
  Calls.mono h fun e w' he => by
    obtain ⟨r, h1, h2⟩ := he
    exact ⟨r, h1, hr r w' h2⟩
def store_Store_SetMeta.RV (R : Int → World → Prop) (v : Value) (w : World) : Prop := match v with
  | .int .i64 r => R r w
  | _ => False
theorem store_Store_SetMeta.RV_elim {R : Int → World → Prop} {v : Value} {w : World} (h : store_Store_SetMeta.RV R v w) : ∃ r, Ending.returned v = .returned (.int .i64 r) ∧ R r w := by
  unfold store_Store_SetMeta.RV at h
  split at h
  · exact ⟨_, rfl, h⟩
  · exact h.elim
/-- e2e/kv.appendStr -/
def kv_appendStr.Call (b_b : Option Addr) (b_l b_c : Nat) (s : ByteArray) (w : World) (R : Option Addr → Nat → Nat → World → Prop) : Prop :=
  Calls Tryz.prog 264 #[.slice b_b b_l b_c, .string s] w fun e w' => ∃ r_b r_l r_c, e = .returned (.slice r_b r_l r_c) ∧ R r_b r_l r_c w'
theorem kv_appendStr.Call.mono {b_b b_l b_c s} {w : World} {R R' : Option Addr → Nat → Nat → World → Prop} (h : kv_appendStr.Call b_b b_l b_c s w R) (hr : ∀ r_b r_l r_c w', R r_b r_l r_c w' → R' r_b r_l r_c w') : kv_appendStr.Call b_b b_l b_c s w R' :=
  Calls.mono h fun e w' he => by
    obtain ⟨r_b, r_l, r_c, h1, h2⟩ := he
    exact ⟨r_b, r_l, r_c, h1, hr r_b r_l r_c w' h2⟩
def kv_appendStr.RV (R : Option Addr → Nat → Nat → World → Prop) (v : Value) (w : World) : Prop := match v with
  | .slice r_b r_l r_c => R r_b r_l r_c w
  | _ => False
theorem kv_appendStr.RV_elim {R : Option Addr → Nat → Nat → World → Prop} {v : Value} {w : World} (h : kv_appendStr.RV R v w) : ∃ r_b r_l r_c, Ending.returned v = .returned (.slice r_b r_l r_c) ∧ R r_b r_l r_c w := by
  unfold kv_appendStr.RV at h
  split at h
  · exact ⟨_, _, _, rfl, h⟩
  · exact h.elim
/-- (*e2e/rlog.Log).Compact -/
def rlog_Log_Compact.Call (l : Option Addr) (upTo : Int) (snap : ByteArray) (w : World) (R : Int → World → Prop) : Prop :=
  Calls Tryz.prog 265 #[.pointer l, .int .i64 upTo, .string snap] w fun e w' => ∃ r, e = .returned (.int .i64 r) ∧ R r w'
theorem rlog_Log_Compact.Call.mono {l upTo snap} {w : World} {R R' : Int → World → Prop} (h : rlog_Log_Compact.Call l upTo snap w R) (hr : ∀ r w', R r w' → R' r w') : rlog_Log_Compact.Call l upTo snap w R' :=
  Calls.mono h fun e w' he => by
    obtain ⟨r, h1, h2⟩ := he
    exact ⟨r, h1, hr r w' h2⟩
def rlog_Log_Compact.RV (R : Int → World → Prop) (v : Value) (w : World) : Prop := match v with
  | .int .i64 r => R r w
  | _ => False
theorem rlog_Log_Compact.RV_elim {R : Int → World → Prop} {v : Value} {w : World} (h : rlog_Log_Compact.RV R v w) : ∃ r, Ending.returned v = .returned (.int .i64 r) ∧ R r w := by
  unfold rlog_Log_Compact.RV at h
  split at h
  · exact ⟨_, rfl, h⟩
  · exact h.elim
/-- (*e2e/kv.KV).run -/
def kv_KV_run.Call (k : Option Addr) (c_0 c_1 c_2 : Int) (c_3 c_4 c_5 : ByteArray) (w : World) (R : Int → ByteArray → World → Prop) : Prop :=
  Calls Tryz.prog 266 #[.pointer k, .agg #[.int .i64 c_0, .int .i64 c_1, .int .i64 c_2, .string c_3, .string c_4, .string c_5]] w fun e w' => ∃ r_0 r_1, e = .returned (.agg #[.int .i64 r_0, .string r_1]) ∧ R r_0 r_1 w'
theorem kv_KV_run.Call.mono {k c_0 c_1 c_2 c_3 c_4 c_5} {w : World} {R R' : Int → ByteArray → World → Prop} (h : kv_KV_run.Call k c_0 c_1 c_2 c_3 c_4 c_5 w R) (hr : ∀ r_0 r_1 w', R r_0 r_1 w' → R' r_0 r_1 w') : kv_KV_run.Call k c_0 c_1 c_2 c_3 c_4 c_5 w R' :=
  Calls.mono h fun e w' he => by
    obtain ⟨r_0, r_1, h1, h2⟩ := he
    exact ⟨r_0, r_1, h1, hr r_0 r_1 w' h2⟩
def kv_KV_run.RV (R : Int → ByteArray → World → Prop) (v : Value) (w : World) : Prop := match v with
  | .agg ⟨[.int .i64 r_0, .string r_1]⟩ => R r_0 r_1 w
  | _ => False
theorem kv_KV_run.RV_elim {R : Int → ByteArray → World → Prop} {v : Value} {w : World} (h : kv_KV_run.RV R v w) : ∃ r_0 r_1, Ending.returned v = .returned (.agg #[.int .i64 r_0, .string r_1]) ∧ R r_0 r_1 w := by
  unfold kv_KV_run.RV at h
  split at h
  · exact ⟨_, _, rfl, h⟩
  · exact h.elim
/-- (*e2e/elect.Elect).peer -/
def elect_Elect_peer.Call (e_1 : Option Addr) (p : Int) (w : World) (R : Bool → World → Prop) : Prop :=
  Calls Tryz.prog 267 #[.pointer e_1, .int .i64 p] w fun e w' => ∃ r, e = .returned (.bool r) ∧ R r w'
theorem elect_Elect_peer.Call.mono {e_1 p} {w : World} {R R' : Bool → World → Prop} (h : elect_Elect_peer.Call e_1 p w R) (hr : ∀ r w', R r w' → R' r w') : elect_Elect_peer.Call e_1 p w R' :=
  Calls.mono h fun e w' he => by
    obtain ⟨r, h1, h2⟩ := he
    exact ⟨r, h1, hr r w' h2⟩
def elect_Elect_peer.RV (R : Bool → World → Prop) (v : Value) (w : World) : Prop := match v with
  | .bool r => R r w
  | _ => False
theorem elect_Elect_peer.RV_elim {R : Bool → World → Prop} {v : Value} {w : World} (h : elect_Elect_peer.RV R v w) : ∃ r, Ending.returned v = .returned (.bool r) ∧ R r w := by
  unfold elect_Elect_peer.RV at h
  split at h
  · exact ⟨_, rfl, h⟩
  · exact h.elim
/-- e2e/elect.count -/
def elect_count.Call (mask : Int) (w : World) (R : Int → World → Prop) : Prop :=
  Calls Tryz.prog 268 #[.int .i64 mask] w fun e w' => ∃ r, e = .returned (.int .i64 r) ∧ R r w'
theorem elect_count.Call.mono {mask} {w : World} {R R' : Int → World → Prop} (h : elect_count.Call mask w R) (hr : ∀ r w', R r w' → R' r w') : elect_count.Call mask w R' :=
  Calls.mono h fun e w' he => by
    obtain ⟨r, h1, h2⟩ := he
    exact ⟨r, h1, hr r w' h2⟩
def elect_count.RV (R : Int → World → Prop) (v : Value) (w : World) : Prop := match v with
  | .int .i64 r => R r w
  | _ => False
theorem elect_count.RV_elim {R : Int → World → Prop} {v : Value} {w : World} (h : elect_count.RV R v w) : ∃ r, Ending.returned v = .returned (.int .i64 r) ∧ R r w := by
  unfold elect_count.RV at h
  split at h
  · exact ⟨_, rfl, h⟩
  · exact h.elim
/-- (*e2e/sync.Sync).agree -/
def sync_Sync_agree.Call (s : Option Addr) (prev : Int) (ents_b : Option Addr) (ents_l ents_c : Nat) (w : World) (R : Int → World → Prop) : Prop :=
  Calls Tryz.prog 269 #[.pointer s, .int .i64 prev, .slice ents_b ents_l ents_c] w fun e w' => ∃ r, e = .returned (.int .i64 r) ∧ R r w'
theorem sync_Sync_agree.Call.mono {s prev ents_b ents_l ents_c} {w : World} {R R' : Int → World → Prop} (h : sync_Sync_agree.Call s prev ents_b ents_l ents_c w R) (hr : ∀ r w', R r w' → R' r w') : sync_Sync_agree.Call s prev ents_b ents_l ents_c w R' :=
  Calls.mono h fun e w' he => by
    obtain ⟨r, h1, h2⟩ := he
    exact ⟨r, h1, hr r w' h2⟩
def sync_Sync_agree.RV (R : Int → World → Prop) (v : Value) (w : World) : Prop := match v with
  | .int .i64 r => R r w
  | _ => False
theorem sync_Sync_agree.RV_elim {R : Int → World → Prop} {v : Value} {w : World} (h : sync_Sync_agree.RV R v w) : ∃ r, Ending.returned v = .returned (.int .i64 r) ∧ R r w := by
  unfold sync_Sync_agree.RV at h
  split at h
  · exact ⟨_, rfl, h⟩
  · exact h.elim
/-- (*e2e/sync.Sync).repair -/
def sync_Sync_repair.Call (s : Option Addr) (i : Int) (ents_b : Option Addr) (ents_l ents_c : Nat) (k : Int) (w : World) (R : Int → World → Prop) : Prop :=
  Calls Tryz.prog 270 #[.pointer s, .int .i64 i, .slice ents_b ents_l ents_c, .int .i64 k] w fun e w' => ∃ r, e = .returned (.int .i64 r) ∧ R r w'
theorem sync_Sync_repair.Call.mono {s i ents_b ents_l ents_c k} {w : World} {R R' : Int → World → Prop} (h : sync_Sync_repair.Call s i ents_b ents_l ents_c k w R) (hr : ∀ r w', R r w' → R' r w') : sync_Sync_repair.Call s i ents_b ents_l ents_c k w R' :=
  Calls.mono h fun e w' he => by
    obtain ⟨r, h1, h2⟩ := he
    exact ⟨r, h1, hr r w' h2⟩
def sync_Sync_repair.RV (R : Int → World → Prop) (v : Value) (w : World) : Prop := match v with
  | .int .i64 r => R r w
  | _ => False
theorem sync_Sync_repair.RV_elim {R : Int → World → Prop} {v : Value} {w : World} (h : sync_Sync_repair.RV R v w) : ∃ r, Ending.returned v = .returned (.int .i64 r) ∧ R r w := by
  unfold sync_Sync_repair.RV at h
  split at h
  · exact ⟨_, rfl, h⟩
  · exact h.elim
/-- (*e2e/rlog.Log).rebase -/
def rlog_Log_rebase.Call (l : Option Addr) (idx term : Int) (snap : ByteArray) (w : World) (R : Int → World → Prop) : Prop :=
  Calls Tryz.prog 271 #[.pointer l, .int .i64 idx, .int .i64 term, .string snap] w fun e w' => ∃ r, e = .returned (.int .i64 r) ∧ R r w'
theorem rlog_Log_rebase.Call.mono {l idx term snap} {w : World} {R R' : Int → World → Prop} (h : rlog_Log_rebase.Call l idx term snap w R) (hr : ∀ r w', R r w' → R' r w') : rlog_Log_rebase.Call l idx term snap w R' :=
  Calls.mono h fun e w' he => by
    obtain ⟨r, h1, h2⟩ := he
    exact ⟨r, h1, hr r w' h2⟩
def rlog_Log_rebase.RV (R : Int → World → Prop) (v : Value) (w : World) : Prop := match v with
  | .int .i64 r => R r w
  | _ => False
theorem rlog_Log_rebase.RV_elim {R : Int → World → Prop} {v : Value} {w : World} (h : rlog_Log_rebase.RV R v w) : ∃ r, Ending.returned v = .returned (.int .i64 r) ∧ R r w := by
  unfold rlog_Log_rebase.RV at h
  split at h
  · exact ⟨_, rfl, h⟩
  · exact h.elim
/-- (*e2e/rlog.Log).dropFrom -/
def rlog_Log_dropFrom.Call (l : Option Addr) (i : Int) (w : World) (R : Int → World → Prop) : Prop :=
  Calls Tryz.prog 272 #[.pointer l, .int .i64 i] w fun e w' => ∃ r, e = .returned (.int .i64 r) ∧ R r w'
theorem rlog_Log_dropFrom.Call.mono {l i} {w : World} {R R' : Int → World → Prop} (h : rlog_Log_dropFrom.Call l i w R) (hr : ∀ r w', R r w' → R' r w') : rlog_Log_dropFrom.Call l i w R' :=
  Calls.mono h fun e w' he => by
    obtain ⟨r, h1, h2⟩ := he
    exact ⟨r, h1, hr r w' h2⟩
def rlog_Log_dropFrom.RV (R : Int → World → Prop) (v : Value) (w : World) : Prop := match v with
  | .int .i64 r => R r w
  | _ => False
theorem rlog_Log_dropFrom.RV_elim {R : Int → World → Prop} {v : Value} {w : World} (h : rlog_Log_dropFrom.RV R v w) : ∃ r, Ending.returned v = .returned (.int .i64 r) ∧ R r w := by
  unfold rlog_Log_dropFrom.RV at h
  split at h
  · exact ⟨_, rfl, h⟩
  · exact h.elim
/-- (*e2e/store.Store).SetSnap -/
def store_Store_SetSnap.Call (t : Option Addr) (idx term : Int) (data : ByteArray) (w : World) (R : Int → World → Prop) : Prop :=
  Calls Tryz.prog 273 #[.pointer t, .int .i64 idx, .int .i64 term, .string data] w fun e w' => ∃ r, e = .returned (.int .i64 r) ∧ R r w'
theorem store_Store_SetSnap.Call.mono {t idx term data} {w : World} {R R' : Int → World → Prop} (h : store_Store_SetSnap.Call t idx term data w R) (hr : ∀ r w', R r w' → R' r w') : store_Store_SetSnap.Call t idx term data w R' :=
  Calls.mono h fun e w' he => by
    obtain ⟨r, h1, h2⟩ := he
    exact ⟨r, h1, hr r w' h2⟩
def store_Store_SetSnap.RV (R : Int → World → Prop) (v : Value) (w : World) : Prop := match v with
  | .int .i64 r => R r w
  | _ => False
theorem store_Store_SetSnap.RV_elim {R : Int → World → Prop} {v : Value} {w : World} (h : store_Store_SetSnap.RV R v w) : ∃ r, Ending.returned v = .returned (.int .i64 r) ∧ R r w := by
  unfold store_Store_SetSnap.RV at h
  split at h
  · exact ⟨_, rfl, h⟩
  · exact h.elim
/-- (*e2e/sync.Sync).advance -/
def sync_Sync_advance.Call (s : Option Addr) (w : World) (R : World → Prop) : Prop :=
  Calls Tryz.prog 274 #[.pointer s] w fun e w' => e = .returned (.tuple #[]) ∧ R w'
theorem sync_Sync_advance.Call.mono {s} {w : World} {R R' : World → Prop} (h : sync_Sync_advance.Call s w R) (hr : ∀ w', R w' → R'  w') : sync_Sync_advance.Call s w R' :=
  Calls.mono h fun e w' he => by
    obtain ⟨h1, h2⟩ := he
    exact ⟨h1, hr  w' h2⟩
def sync_Sync_advance.RV (R : World → Prop) (v : Value) (w : World) : Prop := match v with
  | .tuple ⟨[]⟩ => R w
  | _ => False
theorem sync_Sync_advance.RV_elim {R : World → Prop} {v : Value} {w : World} (h : sync_Sync_advance.RV R v w) : Ending.returned v = .returned (.tuple #[]) ∧ R w := by
  unfold sync_Sync_advance.RV at h
  split at h
  · exact ⟨rfl, h⟩
  · exact h.elim
/-- (*e2e/store.Store).PutRec -/
def store_Store_PutRec.Call (t : Option Addr) (slot r_0 r_1 : Int) (r_2 : ByteArray) (w : World) (R : Int → World → Prop) : Prop :=
  Calls Tryz.prog 275 #[.pointer t, .int .i64 slot, .agg #[.int .i64 r_0, .int .i64 r_1, .string r_2]] w fun e w' => ∃ r, e = .returned (.int .i64 r) ∧ R r w'
theorem store_Store_PutRec.Call.mono {t slot r_0 r_1 r_2} {w : World} {R R' : Int → World → Prop} (h : store_Store_PutRec.Call t slot r_0 r_1 r_2 w R) (hr : ∀ r w', R r w' → R' r w') : store_Store_PutRec.Call t slot r_0 r_1 r_2 w R' :=
  Calls.mono h fun e w' he => by
    obtain ⟨r, h1, h2⟩ := he
    exact ⟨r, h1, hr r w' h2⟩
def store_Store_PutRec.RV (R : Int → World → Prop) (v : Value) (w : World) : Prop := match v with
  | .int .i64 r => R r w
  | _ => False
theorem store_Store_PutRec.RV_elim {R : Int → World → Prop} {v : Value} {w : World} (h : store_Store_PutRec.RV R v w) : ∃ r, Ending.returned v = .returned (.int .i64 r) ∧ R r w := by
  unfold store_Store_PutRec.RV at h
  split at h
  · exact ⟨_, rfl, h⟩
  · exact h.elim
/-- (*e2e/kvm.KV).put -/
def kvm_KV_put.Call (k : Option Addr) (key val : ByteArray) (w : World) (R : Int → World → Prop) : Prop :=
  Calls Tryz.prog 276 #[.pointer k, .string key, .string val] w fun e w' => ∃ r, e = .returned (.int .i64 r) ∧ R r w'
theorem kvm_KV_put.Call.mono {k key val} {w : World} {R R' : Int → World → Prop} (h : kvm_KV_put.Call k key val w R) (hr : ∀ r w', R r w' → R' r w') : kvm_KV_put.Call k key val w R' :=
  Calls.mono h fun e w' he => by
    obtain ⟨r, h1, h2⟩ := he
    exact ⟨r, h1, hr r w' h2⟩
def kvm_KV_put.RV (R : Int → World → Prop) (v : Value) (w : World) : Prop := match v with
  | .int .i64 r => R r w
  | _ => False
theorem kvm_KV_put.RV_elim {R : Int → World → Prop} {v : Value} {w : World} (h : kvm_KV_put.RV R v w) : ∃ r, Ending.returned v = .returned (.int .i64 r) ∧ R r w := by
  unfold kvm_KV_put.RV at h
  split at h
  · exact ⟨_, rfl, h⟩
  · exact h.elim
/-- e2e/kv.hash -/
def kv_hash.Call (key : ByteArray) (w : World) (R : Int → World → Prop) : Prop :=
  Calls Tryz.prog 277 #[.string key] w fun e w' => ∃ r, e = .returned (.int .i64 r) ∧ R r w'
theorem kv_hash.Call.mono {key} {w : World} {R R' : Int → World → Prop} (h : kv_hash.Call key w R) (hr : ∀ r w', R r w' → R' r w') : kv_hash.Call key w R' :=
  Calls.mono h fun e w' he => by
    obtain ⟨r, h1, h2⟩ := he
    exact ⟨r, h1, hr r w' h2⟩
def kv_hash.RV (R : Int → World → Prop) (v : Value) (w : World) : Prop := match v with
  | .int .i64 r => R r w
  | _ => False
theorem kv_hash.RV_elim {R : Int → World → Prop} {v : Value} {w : World} (h : kv_hash.RV R v w) : ∃ r, Ending.returned v = .returned (.int .i64 r) ∧ R r w := by
  unfold kv_hash.RV at h
  split at h
  · exact ⟨_, rfl, h⟩
  · exact h.elim
/-- e2e/kv.keyIs -/
def kv_keyIs.Call (c_0 c_1 c_2 c_3 c_4 c_5 c_6 c_7 : Int) (key : ByteArray) (w : World) (R : Bool → World → Prop) : Prop :=
  Calls Tryz.prog 278 #[.agg #[.int .i64 c_0, .int .i64 c_1, .int .u8 c_2, .int .u8 c_3, .int .i64 c_4, .int .u8 c_5, .int .u8 c_6, .int .u8 c_7], .string key] w fun e w' => ∃ r, e = .returned (.bool r) ∧ R r w'
theorem kv_keyIs.Call.mono {c_0 c_1 c_2 c_3 c_4 c_5 c_6 c_7 key} {w : World} {R R' : Bool → World → Prop} (h : kv_keyIs.Call c_0 c_1 c_2 c_3 c_4 c_5 c_6 c_7 key w R) (hr : ∀ r w', R r w' → R' r w') : kv_keyIs.Call c_0 c_1 c_2 c_3 c_4 c_5 c_6 c_7 key w R' :=
  Calls.mono h fun e w' he => by
    obtain ⟨r, h1, h2⟩ := he
    exact ⟨r, h1, hr r w' h2⟩
def kv_keyIs.RV (R : Bool → World → Prop) (v : Value) (w : World) : Prop := match v with
  | .bool r => R r w
  | _ => False
theorem kv_keyIs.RV_elim {R : Bool → World → Prop} {v : Value} {w : World} (h : kv_keyIs.RV R v w) : ∃ r, Ending.returned v = .returned (.bool r) ∧ R r w := by
  unfold kv_keyIs.RV at h
  split at h
  · exact ⟨_, rfl, h⟩
  · exact h.elim
/-- e2e/kv.next -/
def kv_next.Call (i : Int) (w : World) (R : Int → World → Prop) : Prop :=
  Calls Tryz.prog 279 #[.int .i64 i] w fun e w' => ∃ r, e = .returned (.int .i64 r) ∧ R r w'
theorem kv_next.Call.mono {i} {w : World} {R R' : Int → World → Prop} (h : kv_next.Call i w R) (hr : ∀ r w', R r w' → R' r w') : kv_next.Call i w R' :=
  Calls.mono h fun e w' he => by
    obtain ⟨r, h1, h2⟩ := he
    exact ⟨r, h1, hr r w' h2⟩
def kv_next.RV (R : Int → World → Prop) (v : Value) (w : World) : Prop := match v with
  | .int .i64 r => R r w
  | _ => False
theorem kv_next.RV_elim {R : Int → World → Prop} {v : Value} {w : World} (h : kv_next.RV R v w) : ∃ r, Ending.returned v = .returned (.int .i64 r) ∧ R r w := by
  unfold kv_next.RV at h
  split at h
  · exact ⟨_, rfl, h⟩
  · exact h.elim
/-- e2e/node.narrow -/
def node_narrow.Call (v_1 : Int) (w : World) (R : Bool → World → Prop) : Prop :=
  Calls Tryz.prog 280 #[.int .i64 v_1] w fun e w' => ∃ r, e = .returned (.bool r) ∧ R r w'
theorem node_narrow.Call.mono {v_1} {w : World} {R R' : Bool → World → Prop} (h : node_narrow.Call v_1 w R) (hr : ∀ r w', R r w' → R' r w') : node_narrow.Call v_1 w R' :=
  Calls.mono h fun e w' he => by
    obtain ⟨r, h1, h2⟩ := he
    exact ⟨r, h1, hr r w' h2⟩
def node_narrow.RV (R : Bool → World → Prop) (v : Value) (w : World) : Prop := match v with
  | .bool r => R r w
  | _ => False
theorem node_narrow.RV_elim {R : Bool → World → Prop} {v : Value} {w : World} (h : node_narrow.RV R v w) : ∃ r, Ending.returned v = .returned (.bool r) ∧ R r w := by
  unfold node_narrow.RV at h
  split at h
  · exact ⟨_, rfl, h⟩
  · exact h.elim
/-- e2e/store.next -/
def store_next.Call (old : Int) (w : World) (R : Int → World → Prop) : Prop :=
  Calls Tryz.prog 281 #[.int .u8 old] w fun e w' => ∃ r, e = .returned (.int .u8 r) ∧ R r w'
theorem store_next.Call.mono {old} {w : World} {R R' : Int → World → Prop} (h : store_next.Call old w R) (hr : ∀ r w', R r w' → R' r w') : store_next.Call old w R' :=
  Calls.mono h fun e w' he => by
    obtain ⟨r, h1, h2⟩ := he
    exact ⟨r, h1, hr r w' h2⟩
def store_next.RV (R : Int → World → Prop) (v : Value) (w : World) : Prop := match v with
  | .int .u8 r => R r w
  | _ => False
theorem store_next.RV_elim {R : Int → World → Prop} {v : Value} {w : World} (h : store_next.RV R v w) : ∃ r, Ending.returned v = .returned (.int .u8 r) ∧ R r w := by
  unfold store_next.RV at h
  split at h
  · exact ⟨_, rfl, h⟩
  · exact h.elim
/-- (*e2e/diskm.Disk).Write -/
def diskm_Disk_Write.Call (d : Option Addr) (b : Int) (x : ByteArray) (w : World) (R : Int → World → Prop) : Prop :=
  Calls Tryz.prog 282 #[.pointer d, .int .i64 b, .string x] w fun e w' => ∃ r, e = .returned (.int .i64 r) ∧ R r w'
theorem diskm_Disk_Write.Call.mono {d b x} {w : World} {R R' : Int → World → Prop} (h : diskm_Disk_Write.Call d b x w R) (hr : ∀ r w', R r w' → R' r w') : diskm_Disk_Write.Call d b x w R' :=
  Calls.mono h fun e w' he => by
    obtain ⟨r, h1, h2⟩ := he
    exact ⟨r, h1, hr r w' h2⟩
def diskm_Disk_Write.RV (R : Int → World → Prop) (v : Value) (w : World) : Prop := match v with
  | .int .i64 r => R r w
  | _ => False
theorem diskm_Disk_Write.RV_elim {R : Int → World → Prop} {v : Value} {w : World} (h : diskm_Disk_Write.RV R v w) : ∃ r, Ending.returned v = .returned (.int .i64 r) ∧ R r w := by
  unfold diskm_Disk_Write.RV at h
  split at h
  · exact ⟨_, rfl, h⟩
  · exact h.elim
/-- e2e/store.encMeta -/
def store_encMeta.Call (m0_0 : Bool) (m0_1 m0_2 m0_3 : Int) (w : World) (R : Option Addr → Nat → Nat → World → Prop) : Prop :=
  Calls Tryz.prog 283 #[.agg #[.bool m0_0, .int .i64 m0_1, .int .i64 m0_2, .int .i64 m0_3]] w fun e w' => ∃ r_b r_l r_c, e = .returned (.slice r_b r_l r_c) ∧ R r_b r_l r_c w'
theorem store_encMeta.Call.mono {m0_0 m0_1 m0_2 m0_3} {w : World} {R R' : Option Addr → Nat → Nat → World → Prop} (h : store_encMeta.Call m0_0 m0_1 m0_2 m0_3 w R) (hr : ∀ r_b r_l r_c w', R r_b r_l r_c w' → R' r_b r_l r_c w') : store_encMeta.Call m0_0 m0_1 m0_2 m0_3 w R' :=
  Calls.mono h fun e w' he => by
    obtain ⟨r_b, r_l, r_c, h1, h2⟩ := he
    exact ⟨r_b, r_l, r_c, h1, hr r_b r_l r_c w' h2⟩
def store_encMeta.RV (R : Option Addr → Nat → Nat → World → Prop) (v : Value) (w : World) : Prop := match v with
  | .slice r_b r_l r_c => R r_b r_l r_c w
  | _ => False
theorem store_encMeta.RV_elim {R : Option Addr → Nat → Nat → World → Prop} {v : Value} {w : World} (h : store_encMeta.RV R v w) : ∃ r_b r_l r_c, Ending.returned v = .returned (.slice r_b r_l r_c) ∧ R r_b r_l r_c w := by
  unfold store_encMeta.RV at h
  split at h
  · exact ⟨_, _, _, rfl, h⟩
  · exact h.elim
/-- (*e2e/kv.KV).put -/
def kv_KV_put.Call (k : Option Addr) (i c_0 c_1 c_2 : Int) (c_3 c_4 c_5 : ByteArray) (w : World) (R : Int → ByteArray → World → Prop) : Prop :=
  Calls Tryz.prog 284 #[.pointer k, .int .i64 i, .agg #[.int .i64 c_0, .int .i64 c_1, .int .i64 c_2, .string c_3, .string c_4, .string c_5]] w fun e w' => ∃ r_0 r_1, e = .returned (.agg #[.int .i64 r_0, .string r_1]) ∧ R r_0 r_1 w'
theorem kv_KV_put.Call.mono {k i c_0 c_1 c_2 c_3 c_4 c_5} {w : World} {R R' : Int → ByteArray → World → Prop} (h : kv_KV_put.Call k i c_0 c_1 c_2 c_3 c_4 c_5 w R) (hr : ∀ r_0 r_1 w', R r_0 r_1 w' → R' r_0 r_1 w') : kv_KV_put.Call k i c_0 c_1 c_2 c_3 c_4 c_5 w R' :=
  Calls.mono h fun e w' he => by
    obtain ⟨r_0, r_1, h1, h2⟩ := he
    exact ⟨r_0, r_1, h1, hr r_0 r_1 w' h2⟩
def kv_KV_put.RV (R : Int → ByteArray → World → Prop) (v : Value) (w : World) : Prop := match v with
  | .agg ⟨[.int .i64 r_0, .string r_1]⟩ => R r_0 r_1 w
  | _ => False
theorem kv_KV_put.RV_elim {R : Int → ByteArray → World → Prop} {v : Value} {w : World} (h : kv_KV_put.RV R v w) : ∃ r_0 r_1, Ending.returned v = .returned (.agg #[.int .i64 r_0, .string r_1]) ∧ R r_0 r_1 w := by
  unfold kv_KV_put.RV at h
  split at h
  · exact ⟨_, _, rfl, h⟩
  · exact h.elim
/-- (*e2e/kv.table).drop -/
def kv_table_drop.Call (t : Option Addr) (i : Int) (w : World) (R : World → Prop) : Prop :=
  Calls Tryz.prog 285 #[.pointer t, .int .i64 i] w fun e w' => e = .returned (.tuple #[]) ∧ R w'
theorem kv_table_drop.Call.mono {t i} {w : World} {R R' : World → Prop} (h : kv_table_drop.Call t i w R) (hr : ∀ w', R w' → R'  w') : kv_table_drop.Call t i w R' :=
  Calls.mono h fun e w' he => by
    obtain ⟨h1, h2⟩ := he
    exact ⟨h1, hr  w' h2⟩
def kv_table_drop.RV (R : World → Prop) (v : Value) (w : World) : Prop := match v with
  | .tuple ⟨[]⟩ => R w
  | _ => False
theorem kv_table_drop.RV_elim {R : World → Prop} {v : Value} {w : World} (h : kv_table_drop.RV R v w) : Ending.returned v = .returned (.tuple #[]) ∧ R w := by
  unfold kv_table_drop.RV at h
  split at h
  · exact ⟨rfl, h⟩
  · exact h.elim
/-- (*e2e/rlog.Log).TruncateFrom -/
def rlog_Log_TruncateFrom.Call (l : Option Addr) (i : Int) (w : World) (R : Int → World → Prop) : Prop :=
  Calls Tryz.prog 286 #[.pointer l, .int .i64 i] w fun e w' => ∃ r, e = .returned (.int .i64 r) ∧ R r w'
theorem rlog_Log_TruncateFrom.Call.mono {l i} {w : World} {R R' : Int → World → Prop} (h : rlog_Log_TruncateFrom.Call l i w R) (hr : ∀ r w', R r w' → R' r w') : rlog_Log_TruncateFrom.Call l i w R' :=
  Calls.mono h fun e w' he => by
    obtain ⟨r, h1, h2⟩ := he
    exact ⟨r, h1, hr r w' h2⟩
def rlog_Log_TruncateFrom.RV (R : Int → World → Prop) (v : Value) (w : World) : Prop := match v with
  | .int .i64 r => R r w
  | _ => False
theorem rlog_Log_TruncateFrom.RV_elim {R : Int → World → Prop} {v : Value} {w : World} (h : rlog_Log_TruncateFrom.RV R v w) : ∃ r, Ending.returned v = .returned (.int .i64 r) ∧ R r w := by
  unfold rlog_Log_TruncateFrom.RV at h
  split at h
  · exact ⟨_, rfl, h⟩
  · exact h.elim
/-- e2e/store.chunk -/
def store_chunk.Call (data : ByteArray) (k : Int) (w : World) (R : ByteArray → World → Prop) : Prop :=
  Calls Tryz.prog 287 #[.string data, .int .i64 k] w fun e w' => ∃ r, e = .returned (.string r) ∧ R r w'
theorem store_chunk.Call.mono {data k} {w : World} {R R' : ByteArray → World → Prop} (h : store_chunk.Call data k w R) (hr : ∀ r w', R r w' → R' r w') : store_chunk.Call data k w R' :=
  Calls.mono h fun e w' he => by
    obtain ⟨r, h1, h2⟩ := he
    exact ⟨r, h1, hr r w' h2⟩
def store_chunk.RV (R : ByteArray → World → Prop) (v : Value) (w : World) : Prop := match v with
  | .string r => R r w
  | _ => False
theorem store_chunk.RV_elim {R : ByteArray → World → Prop} {v : Value} {w : World} (h : store_chunk.RV R v w) : ∃ r, Ending.returned v = .returned (.string r) ∧ R r w := by
  unfold store_chunk.RV at h
  split at h
  · exact ⟨_, rfl, h⟩
  · exact h.elim
/-- e2e/store.encHead -/
def store_encHead.Call (h0_0 : Bool) (h0_1 h0_2 h0_3 h0_4 h0_5 : Int) (w : World) (R : Option Addr → Nat → Nat → World → Prop) : Prop :=
  Calls Tryz.prog 288 #[.agg #[.bool h0_0, .int .i64 h0_1, .int .i64 h0_2, .int .i64 h0_3, .int .i64 h0_4, .int .i64 h0_5]] w fun e w' => ∃ r_b r_l r_c, e = .returned (.slice r_b r_l r_c) ∧ R r_b r_l r_c w'
theorem store_encHead.Call.mono {h0_0 h0_1 h0_2 h0_3 h0_4 h0_5} {w : World} {R R' : Option Addr → Nat → Nat → World → Prop} (h : store_encHead.Call h0_0 h0_1 h0_2 h0_3 h0_4 h0_5 w R) (hr : ∀ r_b r_l r_c w', R r_b r_l r_c w' → R' r_b r_l r_c w') : store_encHead.Call h0_0 h0_1 h0_2 h0_3 h0_4 h0_5 w R' :=
  Calls.mono h fun e w' he => by
    obtain ⟨r_b, r_l, r_c, h1, h2⟩ := he
    exact ⟨r_b, r_l, r_c, h1, hr r_b r_l r_c w' h2⟩
def store_encHead.RV (R : Option Addr → Nat → Nat → World → Prop) (v : Value) (w : World) : Prop := match v with
  | .slice r_b r_l r_c => R r_b r_l r_c w
  | _ => False
theorem store_encHead.RV_elim {R : Option Addr → Nat → Nat → World → Prop} {v : Value} {w : World} (h : store_encHead.RV R v w) : ∃ r_b r_l r_c, Ending.returned v = .returned (.slice r_b r_l r_c) ∧ R r_b r_l r_c w := by
  unfold store_encHead.RV at h
  split at h
  · exact ⟨_, _, _, rfl, h⟩
  · exact h.elim
/-- e2e/sync.sorted -/
def sync_sorted.Call (a_0 a_1 a_2 : Int) (w : World) (R : Int → Int → Int → World → Prop) : Prop :=
  Calls Tryz.prog 289 #[.agg #[.int .i64 a_0, .int .i64 a_1, .int .i64 a_2]] w fun e w' => ∃ r_0 r_1 r_2, e = .returned (.agg #[.int .i64 r_0, .int .i64 r_1, .int .i64 r_2]) ∧ R r_0 r_1 r_2 w'
theorem sync_sorted.Call.mono {a_0 a_1 a_2} {w : World} {R R' : Int → Int → Int → World → Prop} (h : sync_sorted.Call a_0 a_1 a_2 w R) (hr : ∀ r_0 r_1 r_2 w', R r_0 r_1 r_2 w' → R' r_0 r_1 r_2 w') : sync_sorted.Call a_0 a_1 a_2 w R' :=
  Calls.mono h fun e w' he => by
    obtain ⟨r_0, r_1, r_2, h1, h2⟩ := he
    exact ⟨r_0, r_1, r_2, h1, hr r_0 r_1 r_2 w' h2⟩
def sync_sorted.RV (R : Int → Int → Int → World → Prop) (v : Value) (w : World) : Prop := match v with
  | .agg ⟨[.int .i64 r_0, .int .i64 r_1, .int .i64 r_2]⟩ => R r_0 r_1 r_2 w
  | _ => False
theorem sync_sorted.RV_elim {R : Int → Int → Int → World → Prop} {v : Value} {w : World} (h : sync_sorted.RV R v w) : ∃ r_0 r_1 r_2, Ending.returned v = .returned (.agg #[.int .i64 r_0, .int .i64 r_1, .int .i64 r_2]) ∧ R r_0 r_1 r_2 w := by
  unfold sync_sorted.RV at h
  split at h
  · exact ⟨_, _, _, rfl, h⟩
  · exact h.elim
/-- e2e/store.encRec -/
def store_encRec.Call (r_0 r_1 : Int) (r_2 : ByteArray) (w : World) (R : Option Addr → Nat → Nat → World → Prop) : Prop :=
  Calls Tryz.prog 290 #[.agg #[.int .i64 r_0, .int .i64 r_1, .string r_2]] w fun e w' => ∃ r_b r_l r_c, e = .returned (.slice r_b r_l r_c) ∧ R r_b r_l r_c w'
theorem store_encRec.Call.mono {r_0 r_1 r_2} {w : World} {R R' : Option Addr → Nat → Nat → World → Prop} (h : store_encRec.Call r_0 r_1 r_2 w R) (hr : ∀ r_b r_l r_c w', R r_b r_l r_c w' → R' r_b r_l r_c w') : store_encRec.Call r_0 r_1 r_2 w R' :=
  Calls.mono h fun e w' he => by
    obtain ⟨r_b, r_l, r_c, h1, h2⟩ := he
    exact ⟨r_b, r_l, r_c, h1, hr r_b r_l r_c w' h2⟩
def store_encRec.RV (R : Option Addr → Nat → Nat → World → Prop) (v : Value) (w : World) : Prop := match v with
  | .slice r_b r_l r_c => R r_b r_l r_c w
  | _ => False
theorem store_encRec.RV_elim {R : Option Addr → Nat → Nat → World → Prop} {v : Value} {w : World} (h : store_encRec.RV R v w) : ∃ r_b r_l r_c, Ending.returned v = .returned (.slice r_b r_l r_c) ∧ R r_b r_l r_c w := by
  unfold store_encRec.RV at h
  split at h
  · exact ⟨_, _, _, rfl, h⟩
  · exact h.elim
/-- e2e/store.put8 -/
def store_put8.Call (b_b : Option Addr) (b_l b_c : Nat) (at0 v_1 : Int) (w : World) (R : Option Addr → Nat → Nat → World → Prop) : Prop :=
  Calls Tryz.prog 291 #[.slice b_b b_l b_c, .int .i64 at0, .int .i64 v_1] w fun e w' => ∃ r_b r_l r_c, e = .returned (.slice r_b r_l r_c) ∧ R r_b r_l r_c w'
theorem store_put8.Call.mono {b_b b_l b_c at0 v_1} {w : World} {R R' : Option Addr → Nat → Nat → World → Prop} (h : store_put8.Call b_b b_l b_c at0 v_1 w R) (hr : ∀ r_b r_l r_c w', R r_b r_l r_c w' → R' r_b r_l r_c w') : store_put8.Call b_b b_l b_c at0 v_1 w R' :=
  Calls.mono h fun e w' he => by
    obtain ⟨r_b, r_l, r_c, h1, h2⟩ := he
    exact ⟨r_b, r_l, r_c, h1, hr r_b r_l r_c w' h2⟩
def store_put8.RV (R : Option Addr → Nat → Nat → World → Prop) (v : Value) (w : World) : Prop := match v with
  | .slice r_b r_l r_c => R r_b r_l r_c w
  | _ => False
theorem store_put8.RV_elim {R : Option Addr → Nat → Nat → World → Prop} {v : Value} {w : World} (h : store_put8.RV R v w) : ∃ r_b r_l r_c, Ending.returned v = .returned (.slice r_b r_l r_c) ∧ R r_b r_l r_c w := by
  unfold store_put8.RV at h
  split at h
  · exact ⟨_, _, _, rfl, h⟩
  · exact h.elim
end Go.Proofs.Qxb6500430aGreat
