import Derived.Test.Qxb6500433aGreatProg
import Derived.Test.Qxb6500433aGreatVcC
open Go.Vc
namespace Go.Proofs.Qxb6500433aGreat
theorem Tryz.mixed : Tryz.prog.follows .mixedOrders = true := by kernel_rfl
abbrev T_int64 : TypeId := 2
abbrev T_int : TypeId := 3
abbrev T_bool : TypeId := 4
abbrev T_uint8 : TypeId := 5
abbrev T_string : TypeId := 9
abbrev T_uintptr : TypeId := 12
abbrev T_int32 : TypeId := 21
abbrev T_synclaw_Below : TypeId := 30
abbrev T_api_Msg : TypeId := 40
abbrev T_synclaw_Sent : TypeId := 43
abbrev T_api_Op : TypeId := 48
abbrev T_synclaw_Kept : TypeId := 64
abbrev T_elect_Elect : TypeId := 72
abbrev T_sync_Sync : TypeId := 83
abbrev T_api_Errno : TypeId := 84
abbrev T_syncm_Sync : TypeId := 89
abbrev T_api_SyncView : TypeId := 95
abbrev T_api_Entry : TypeId := 103
abbrev T_diskm_Disk : TypeId := 111
abbrev T_store_meta : TypeId := 115
abbrev T_store_head : TypeId := 117
abbrev T_api_Rec : TypeId := 120
abbrev T_store_Store : TypeId := 123
abbrev T_rlog_Log : TypeId := 133
abbrev T_uint : TypeId := 138
abbrev T_rlogm_state : TypeId := 143
abbrev T_rlogm_Log : TypeId := 146
abbrev T_electm_Elect : TypeId := 149
abbrev T_diskm_half : TypeId := 151
abbrev T_uint32 : TypeId := 197
/-- e2e/synclaw.Refines -/
def synclaw_Refines.Call (script_b : Option Addr) (script_l script_c : Nat) (w : World) (R : Bool → World → Prop) : Prop :=
  Calls Tryz.prog 3 #[.slice script_b script_l script_c] w fun e w' => ∃ r, e = .returned (.bool r) ∧ R r w'
theorem synclaw_Refines.Call.mono {script_b script_l script_c} {w : World} {R R' : Bool → World → Prop} (h : synclaw_Refines.Call script_b script_l script_c w R) (hr : ∀ r w', R r w' → R' r w') : synclaw_Refines.Call script_b script_l script_c w R' :=
  Calls.mono h fun e w' he => by
    obtain ⟨r, h1, h2⟩ := he
    exact ⟨r, h1, hr r w' h2⟩
def synclaw_Refines.RV (R : Bool → World → Prop) (v : Value) (w : World) : Prop := match v with
  | .bool r => R r w
  | _ => False
theorem synclaw_Refines.RV_elim {R : Bool → World → Prop} {v : Value} {w : World} (h : synclaw_Refines.RV R v w) : ∃ r, Ending.returned v = .returned (.bool r) ∧ R r w := by
  unfold synclaw_Refines.RV at h
  split at h
  · exact ⟨_, rfl, h⟩
  · exact h.elim
/-- e2e/synclaw.RefinesSteady -/
def synclaw_RefinesSteady.Call (script_b : Option Addr) (script_l script_c : Nat) (w : World) (R : Bool → World → Prop) : Prop :=
  Calls Tryz.prog 4 #[.slice script_b script_l script_c] w fun e w' => ∃ r, e = .returned (.bool r) ∧ R r w'
theorem synclaw_RefinesSteady.Call.mono {script_b script_l script_c} {w : World} {R R' : Bool → World → Prop} (h : synclaw_RefinesSteady.Call script_b script_l script_c w R) (hr : ∀ r w', R r w' → R' r w') : synclaw_RefinesSteady.Call script_b script_l script_c w R' :=
  Calls.mono h fun e w' he => by
    obtain ⟨r, h1, h2⟩ := he
    exact ⟨r, h1, hr r w' h2⟩
def synclaw_RefinesSteady.RV (R : Bool → World → Prop) (v : Value) (w : World) : Prop := match v with
  | .bool r => R r w
  | _ => False
theorem synclaw_RefinesSteady.RV_elim {R : Bool → World → Prop} {v : Value} {w : World} (h : synclaw_RefinesSteady.RV R v w) : ∃ r, Ending.returned v = .returned (.bool r) ∧ R r w := by
  unfold synclaw_RefinesSteady.RV at h
  split at h
  · exact ⟨_, rfl, h⟩
  · exact h.elim
/-- e2e/synclaw.RefinesQuiet -/
def synclaw_RefinesQuiet.Call (script_b : Option Addr) (script_l script_c : Nat) (w : World) (R : Bool → World → Prop) : Prop :=
  Calls Tryz.prog 5 #[.slice script_b script_l script_c] w fun e w' => ∃ r, e = .returned (.bool r) ∧ R r w'
theorem synclaw_RefinesQuiet.Call.mono {script_b script_l script_c} {w : World} {R R' : Bool → World → Prop} (h : synclaw_RefinesQuiet.Call script_b script_l script_c w R) (hr : ∀ r w', R r w' → R' r w') : synclaw_RefinesQuiet.Call script_b script_l script_c w R' :=
  Calls.mono h fun e w' he => by
    obtain ⟨r, h1, h2⟩ := he
    exact ⟨r, h1, hr r w' h2⟩
def synclaw_RefinesQuiet.RV (R : Bool → World → Prop) (v : Value) (w : World) : Prop := match v with
  | .bool r => R r w
  | _ => False
theorem synclaw_RefinesQuiet.RV_elim {R : Bool → World → Prop} {v : Value} {w : World} (h : synclaw_RefinesQuiet.RV R v w) : ∃ r, Ending.returned v = .returned (.bool r) ∧ R r w := by
  unfold synclaw_RefinesQuiet.RV at h
  split at h
  · exact ⟨_, rfl, h⟩
  · exact h.elim
/-- e2e/synclaw.RefinesUpTo -/
def synclaw_RefinesUpTo.Call (script_b : Option Addr) (script_l script_c : Nat) (w : World) (R : Int → World → Prop) : Prop :=
  Calls Tryz.prog 6 #[.slice script_b script_l script_c] w fun e w' => ∃ r, e = .returned (.int .i64 r) ∧ R r w'
theorem synclaw_RefinesUpTo.Call.mono {script_b script_l script_c} {w : World} {R R' : Int → World → Prop} (h : synclaw_RefinesUpTo.Call script_b script_l script_c w R) (hr : ∀ r w', R r w' → R' r w') : synclaw_RefinesUpTo.Call script_b script_l script_c w R' :=
  Calls.mono h fun e w' he => by
    obtain ⟨r, h1, h2⟩ := he
    exact ⟨r, h1, hr r w' h2⟩
def synclaw_RefinesUpTo.RV (R : Int → World → Prop) (v : Value) (w : World) : Prop := match v with
  | .int .i64 r => R r w
  | _ => False
theorem synclaw_RefinesUpTo.RV_elim {R : Int → World → Prop} {v : Value} {w : World} (h : synclaw_RefinesUpTo.RV R v w) : ∃ r, Ending.returned v = .returned (.int .i64 r) ∧ R r w := by
  unfold synclaw_RefinesUpTo.RV at h
  split at h
  · exact ⟨_, rfl, h⟩
  · exact h.elim
/-- e2e/synclaw.walk -/
def synclaw_walk.Call (script_b : Option Addr) (script_l script_c : Nat) (steady quiet : Bool) (w : World) (R : Int → Int → World → Prop) : Prop :=
  Calls Tryz.prog 7 #[.slice script_b script_l script_c, .bool steady, .bool quiet] w fun e w' => ∃ r0 r1, e = .returned (.tuple #[.int .i64 r0, .int .i64 r1]) ∧ R r0 r1 w'
theorem synclaw_walk.Call.mono {script_b script_l script_c steady quiet} {w : World} {R R' : Int → Int → World → Prop} (h : synclaw_walk.Call script_b script_l script_c steady quiet w R) (hr : ∀ r0 r1 w', R r0 r1 w' → R' r0 r1 w') : synclaw_walk.Call script_b script_l script_c steady quiet w R' :=
  Calls.mono h fun e w' he => by
    obtain ⟨r0, r1, h1, h2⟩ := he
    exact ⟨r0, r1, h1, hr r0 r1 w' h2⟩
def synclaw_walk.RV (R : Int → Int → World → Prop) (v : Value) (w : World) : Prop := match v with
  | .tuple ⟨[.int .i64 r0, .int .i64 r1]⟩ => R r0 r1 w
  | _ => False
theorem synclaw_walk.RV_elim {R : Int → Int → World → Prop} {v : Value} {w : World} (h : synclaw_walk.RV R v w) : ∃ r0 r1, Ending.returned v = .returned (.tuple #[.int .i64 r0, .int .i64 r1]) ∧ R r0 r1 w := by
  unfold synclaw_walk.RV at h
  split at h
  · exact ⟨_, _, rfl, h⟩
  · exact h.elim
/-- e2e/synclaw.Ground -/
def synclaw_Ground.Call  (w : World) (R : Option Addr → Option Addr → World → Prop) : Prop :=
  Calls Tryz.prog 8 #[] w fun e w' => ∃ r_0 r_1, e = .returned (.agg #[.pointer r_0, .pointer r_1]) ∧ R r_0 r_1 w'
theorem synclaw_Ground.Call.mono {w : World} {R R' : Option Addr → Option Addr → World → Prop} (h : synclaw_Ground.Call w R) (hr : ∀ r_0 r_1 w', R r_0 r_1 w' → R' r_0 r_1 w') : synclaw_Ground.Call w R' :=
  Calls.mono h fun e w' he => by
    obtain ⟨r_0, r_1, h1, h2⟩ := he
    exact ⟨r_0, r_1, h1, hr r_0 r_1 w' h2⟩
def synclaw_Ground.RV (R : Option Addr → Option Addr → World → Prop) (v : Value) (w : World) : Prop := match v with
  | .agg ⟨[.pointer r_0, .pointer r_1]⟩ => R r_0 r_1 w
  | _ => False
theorem synclaw_Ground.RV_elim {R : Option Addr → Option Addr → World → Prop} {v : Value} {w : World} (h : synclaw_Ground.RV R v w) : ∃ r_0 r_1, Ending.returned v = .returned (.agg #[.pointer r_0, .pointer r_1]) ∧ R r_0 r_1 w := by
  unfold synclaw_Ground.RV at h
  split at h
  · exact ⟨_, _, rfl, h⟩
  · exact h.elim
/-- e2e/elect.New -/
def elect_New.Call (id0 : Int) (w : World) (R : Option Addr → World → Prop) : Prop :=
  Calls Tryz.prog 9 #[.int .i64 id0] w fun e w' => ∃ r, e = .returned (.pointer r) ∧ R r w'
theorem elect_New.Call.mono {id0} {w : World} {R R' : Option Addr → World → Prop} (h : elect_New.Call id0 w R) (hr : ∀ r w', R r w' → R' r w') : elect_New.Call id0 w R' :=
  Calls.mono h fun e w' he => by
    obtain ⟨r, h1, h2⟩ := he
    exact ⟨r, h1, hr r w' h2⟩
def elect_New.RV (R : Option Addr → World → Prop) (v : Value) (w : World) : Prop := match v with
  | .pointer r => R r w
  | _ => False
theorem elect_New.RV_elim {R : Option Addr → World → Prop} {v : Value} {w : World} (h : elect_New.RV R v w) : ∃ r, Ending.returned v = .returned (.pointer r) ∧ R r w := by
  unfold elect_New.RV at h
  split at h
  · exact ⟨_, rfl, h⟩
  · exact h.elim
/-- e2e/sync.New -/
def sync_New.Call (lg el : Option Addr) (w : World) (R : Option Addr → World → Prop) : Prop :=
  Calls Tryz.prog 10 #[.pointer lg, .pointer el] w fun e w' => ∃ r, e = .returned (.pointer r) ∧ R r w'
theorem sync_New.Call.mono {lg el} {w : World} {R R' : Option Addr → World → Prop} (h : sync_New.Call lg el w R) (hr : ∀ r w', R r w' → R' r w') : sync_New.Call lg el w R' :=
  Calls.mono h fun e w' he => by
    obtain ⟨r, h1, h2⟩ := he
    exact ⟨r, h1, hr r w' h2⟩
def sync_New.RV (R : Option Addr → World → Prop) (v : Value) (w : World) : Prop := match v with
  | .pointer r => R r w
  | _ => False
theorem sync_New.RV_elim {R : Option Addr → World → Prop} {v : Value} {w : World} (h : sync_New.RV R v w) : ∃ r, Ending.returned v = .returned (.pointer r) ∧ R r w := by
  unfold sync_New.RV at h
  split at h
  · exact ⟨_, rfl, h⟩
  · exact h.elim
/-- e2e/syncm.New -/
def syncm_New.Call (id0 : Int) (w : World) (R : Option Addr → World → Prop) : Prop :=
  Calls Tryz.prog 11 #[.int .i64 id0] w fun e w' => ∃ r, e = .returned (.pointer r) ∧ R r w'
theorem syncm_New.Call.mono {id0} {w : World} {R R' : Option Addr → World → Prop} (h : syncm_New.Call id0 w R) (hr : ∀ r w', R r w' → R' r w') : syncm_New.Call id0 w R' :=
  Calls.mono h fun e w' he => by
    obtain ⟨r, h1, h2⟩ := he
    exact ⟨r, h1, hr r w' h2⟩
def syncm_New.RV (R : Option Addr → World → Prop) (v : Value) (w : World) : Prop := match v with
  | .pointer r => R r w
  | _ => False
theorem syncm_New.RV_elim {R : Option Addr → World → Prop} {v : Value} {w : World} (h : syncm_New.RV R v w) : ∃ r, Ending.returned v = .returned (.pointer r) ∧ R r w := by
  unfold syncm_New.RV at h
  split at h
  · exact ⟨_, rfl, h⟩
  · exact h.elim
/-- e2e/synclaw.Steps -/
def synclaw_Steps.Call (b_0 b_1 : Option Addr) (w : World) (R : Int → World → Prop) : Prop :=
  Calls Tryz.prog 12 #[.agg #[.pointer b_0, .pointer b_1]] w fun e w' => ∃ r, e = .returned (.int .i64 r) ∧ R r w'
theorem synclaw_Steps.Call.mono {b_0 b_1} {w : World} {R R' : Int → World → Prop} (h : synclaw_Steps.Call b_0 b_1 w R) (hr : ∀ r w', R r w' → R' r w') : synclaw_Steps.Call b_0 b_1 w R' :=
  Calls.mono h fun e w' he => by
    obtain ⟨r, h1, h2⟩ := he
    exact ⟨r, h1, hr r w' h2⟩
def synclaw_Steps.RV (R : Int → World → Prop) (v : Value) (w : World) : Prop := match v with
  | .int .i64 r => R r w
  | _ => False
theorem synclaw_Steps.RV_elim {R : Int → World → Prop} {v : Value} {w : World} (h : synclaw_Steps.RV R v w) : ∃ r, Ending.returned v = .returned (.int .i64 r) ∧ R r w := by
  unfold synclaw_Steps.RV at h
  split at h
  · exact ⟨_, rfl, h⟩
  · exact h.elim
/-- e2e/synclaw.Seen -/
def synclaw_Seen.Call (x m0 b_0 b_1 : Option Addr) (n : Int) (w : World) (R : Bool → World → Prop) : Prop :=
  Calls Tryz.prog 13 #[.pointer x, .pointer m0, .agg #[.pointer b_0, .pointer b_1], .int .i64 n] w fun e w' => ∃ r, e = .returned (.bool r) ∧ R r w'
theorem synclaw_Seen.Call.mono {x m0 b_0 b_1 n} {w : World} {R R' : Bool → World → Prop} (h : synclaw_Seen.Call x m0 b_0 b_1 n w R) (hr : ∀ r w', R r w' → R' r w') : synclaw_Seen.Call x m0 b_0 b_1 n w R' :=
  Calls.mono h fun e w' he => by
    obtain ⟨r, h1, h2⟩ := he
    exact ⟨r, h1, hr r w' h2⟩
def synclaw_Seen.RV (R : Bool → World → Prop) (v : Value) (w : World) : Prop := match v with
  | .bool r => R r w
  | _ => False
theorem synclaw_Seen.RV_elim {R : Bool → World → Prop} {v : Value} {w : World} (h : synclaw_Seen.RV R v w) : ∃ r, Ending.returned v = .returned (.bool r) ∧ R r w := by
  unfold synclaw_Seen.RV at h
  split at h
  · exact ⟨_, rfl, h⟩
  · exact h.elim
/-- e2e/synclaw.After -/
def synclaw_After.Call (b_0 b_1 : Option Addr) (k : Int) (w : World) (R : Option Addr → Option Addr → World → Prop) : Prop :=
  Calls Tryz.prog 14 #[.agg #[.pointer b_0, .pointer b_1], .int .i64 k] w fun e w' => ∃ r_0 r_1, e = .returned (.agg #[.pointer r_0, .pointer r_1]) ∧ R r_0 r_1 w'
theorem synclaw_After.Call.mono {b_0 b_1 k} {w : World} {R R' : Option Addr → Option Addr → World → Prop} (h : synclaw_After.Call b_0 b_1 k w R) (hr : ∀ r_0 r_1 w', R r_0 r_1 w' → R' r_0 r_1 w') : synclaw_After.Call b_0 b_1 k w R' :=
  Calls.mono h fun e w' he => by
    obtain ⟨r_0, r_1, h1, h2⟩ := he
    exact ⟨r_0, r_1, h1, hr r_0 r_1 w' h2⟩
def synclaw_After.RV (R : Option Addr → Option Addr → World → Prop) (v : Value) (w : World) : Prop := match v with
  | .agg ⟨[.pointer r_0, .pointer r_1]⟩ => R r_0 r_1 w
  | _ => False
theorem synclaw_After.RV_elim {R : Option Addr → Option Addr → World → Prop} {v : Value} {w : World} (h : synclaw_After.RV R v w) : ∃ r_0 r_1, Ending.returned v = .returned (.agg #[.pointer r_0, .pointer r_1]) ∧ R r_0 r_1 w := by
  unfold synclaw_After.RV at h
  split at h
  · exact ⟨_, _, rfl, h⟩
  · exact h.elim
/-- e2e/sync.Open -/
def sync_Open.Call (lg el : Option Addr) (w : World) (R : Option Addr → World → Prop) : Prop :=
  Calls Tryz.prog 15 #[.pointer lg, .pointer el] w fun e w' => ∃ r, e = .returned (.pointer r) ∧ R r w'
theorem sync_Open.Call.mono {lg el} {w : World} {R R' : Option Addr → World → Prop} (h : sync_Open.Call lg el w R) (hr : ∀ r w', R r w' → R' r w') : sync_Open.Call lg el w R' :=
  Calls.mono h fun e w' he => by
    obtain ⟨r, h1, h2⟩ := he
    exact ⟨r, h1, hr r w' h2⟩
def sync_Open.RV (R : Option Addr → World → Prop) (v : Value) (w : World) : Prop := match v with
  | .pointer r => R r w
  | _ => False
theorem sync_Open.RV_elim {R : Option Addr → World → Prop} {v : Value} {w : World} (h : sync_Open.RV R v w) : ∃ r, Ending.returned v = .returned (.pointer r) ∧ R r w := by
  unfold sync_Open.RV at h
  split at h
  · exact ⟨_, rfl, h⟩
  · exact h.elim
/-- (*e2e/sync.Sync).Check -/
def sync_Sync_Check.Call (s : Option Addr) (w : World) (R : ByteArray → World → Prop) : Prop :=
  Calls Tryz.prog 16 #[.pointer s] w fun e w' => ∃ r, e = .returned (.string r) ∧ R r w'
theorem sync_Sync_Check.Call.mono {s} {w : World} {R R' : ByteArray → World → Prop} (h : sync_Sync_Check.Call s w R) (hr : ∀ r w', R r w' → R' r w') : sync_Sync_Check.Call s w R' :=
  Calls.mono h fun e w' he => by
    obtain ⟨r, h1, h2⟩ := he
    exact ⟨r, h1, hr r w' h2⟩
def sync_Sync_Check.RV (R : ByteArray → World → Prop) (v : Value) (w : World) : Prop := match v with
  | .string r => R r w
  | _ => False
theorem sync_Sync_Check.RV_elim {R : ByteArray → World → Prop} {v : Value} {w : World} (h : sync_Sync_Check.RV R v w) : ∃ r, Ending.returned v = .returned (.string r) ∧ R r w := by
  unfold sync_Sync_Check.RV at h
  split at h
  · exact ⟨_, rfl, h⟩
  · exact h.elim
/-- e2e/synclaw.Match -/
def synclaw_Match.Call (x m0 : Option Addr) (w : World) (R : Int → World → Prop) : Prop :=
  Calls Tryz.prog 17 #[.pointer x, .pointer m0] w fun e w' => ∃ r, e = .returned (.int .i64 r) ∧ R r w'
theorem synclaw_Match.Call.mono {x m0} {w : World} {R R' : Int → World → Prop} (h : synclaw_Match.Call x m0 w R) (hr : ∀ r w', R r w' → R' r w') : synclaw_Match.Call x m0 w R' :=
  Calls.mono h fun e w' he => by
    obtain ⟨r, h1, h2⟩ := he
    exact ⟨r, h1, hr r w' h2⟩
def synclaw_Match.RV (R : Int → World → Prop) (v : Value) (w : World) : Prop := match v with
  | .int .i64 r => R r w
  | _ => False
theorem synclaw_Match.RV_elim {R : Int → World → Prop} {v : Value} {w : World} (h : synclaw_Match.RV R v w) : ∃ r, Ending.returned v = .returned (.int .i64 r) ∧ R r w := by
  unfold synclaw_Match.RV at h
  split at h
  · exact ⟨_, rfl, h⟩
  · exact h.elim
/-- (*e2e/syncm.Sync).Steps -/
def syncm_Sync_Steps.Call (s : Option Addr) (w : World) (R : Int → World → Prop) : Prop :=
  Calls Tryz.prog 18 #[.pointer s] w fun e w' => ∃ r, e = .returned (.int .i64 r) ∧ R r w'
theorem syncm_Sync_Steps.Call.mono {s} {w : World} {R R' : Int → World → Prop} (h : syncm_Sync_Steps.Call s w R) (hr : ∀ r w', R r w' → R' r w') : syncm_Sync_Steps.Call s w R' :=
  Calls.mono h fun e w' he => by
    obtain ⟨r, h1, h2⟩ := he
    exact ⟨r, h1, hr r w' h2⟩
def syncm_Sync_Steps.RV (R : Int → World → Prop) (v : Value) (w : World) : Prop := match v with
  | .int .i64 r => R r w
  | _ => False
theorem syncm_Sync_Steps.RV_elim {R : Int → World → Prop} {v : Value} {w : World} (h : syncm_Sync_Steps.RV R v w) : ∃ r, Ending.returned v = .returned (.int .i64 r) ∧ R r w := by
  unfold syncm_Sync_Steps.RV at h
  split at h
  · exact ⟨_, rfl, h⟩
  · exact h.elim
/-- (*e2e/syncm.Sync).After -/
def syncm_Sync_After.Call (s : Option Addr) (k : Int) (w : World) (R : Option Addr → World → Prop) : Prop :=
  Calls Tryz.prog 19 #[.pointer s, .int .i64 k] w fun e w' => ∃ r, e = .returned (.pointer r) ∧ R r w'
theorem syncm_Sync_After.Call.mono {s k} {w : World} {R R' : Option Addr → World → Prop} (h : syncm_Sync_After.Call s k w R) (hr : ∀ r w', R r w' → R' r w') : syncm_Sync_After.Call s k w R' :=
  Calls.mono h fun e w' he => by
    obtain ⟨r, h1, h2⟩ := he
    exact ⟨r, h1, hr r w' h2⟩
def syncm_Sync_After.RV (R : Option Addr → World → Prop) (v : Value) (w : World) : Prop := match v with
  | .pointer r => R r w
  | _ => False
theorem syncm_Sync_After.RV_elim {R : Option Addr → World → Prop} {v : Value} {w : World} (h : syncm_Sync_After.RV R v w) : ∃ r, Ending.returned v = .returned (.pointer r) ∧ R r w := by
  unfold syncm_Sync_After.RV at h
  split at h
  · exact ⟨_, rfl, h⟩
  · exact h.elim
/-- e2e/synclaw.Alike -/
def synclaw_Alike.Call (x m0 : Option Addr) (w : World) (R : Bool → World → Prop) : Prop :=
  Calls Tryz.prog 20 #[.pointer x, .pointer m0] w fun e w' => ∃ r, e = .returned (.bool r) ∧ R r w'
theorem synclaw_Alike.Call.mono {x m0} {w : World} {R R' : Bool → World → Prop} (h : synclaw_Alike.Call x m0 w R) (hr : ∀ r w', R r w' → R' r w') : synclaw_Alike.Call x m0 w R' :=
  Calls.mono h fun e w' he => by
    obtain ⟨r, h1, h2⟩ := he
    exact ⟨r, h1, hr r w' h2⟩
def synclaw_Alike.RV (R : Bool → World → Prop) (v : Value) (w : World) : Prop := match v with
  | .bool r => R r w
  | _ => False
theorem synclaw_Alike.RV_elim {R : Bool → World → Prop} {v : Value} {w : World} (h : synclaw_Alike.RV R v w) : ∃ r, Ending.returned v = .returned (.bool r) ∧ R r w := by
  unfold synclaw_Alike.RV at h
  split at h
  · exact ⟨_, rfl, h⟩
  · exact h.elim
/-- e2e/synclaw.Mark -/
def synclaw_Mark.Call (b_0 b_1 : Option Addr) (w : World) (R : World → Prop) : Prop :=
  Calls Tryz.prog 21 #[.agg #[.pointer b_0, .pointer b_1]] w fun e w' => e = .returned (.tuple #[]) ∧ R w'
theorem synclaw_Mark.Call.mono {b_0 b_1} {w : World} {R R' : World → Prop} (h : synclaw_Mark.Call b_0 b_1 w R) (hr : ∀ w', R w' → R'  w') : synclaw_Mark.Call b_0 b_1 w R' :=
  Calls.mono h fun e w' he => by
    obtain ⟨h1, h2⟩ := he
    exact ⟨h1, hr  w' h2⟩
def synclaw_Mark.RV (R : World → Prop) (v : Value) (w : World) : Prop := match v with
  | .tuple ⟨[]⟩ => R w
  | _ => False
theorem synclaw_Mark.RV_elim {R : World → Prop} {v : Value} {w : World} (h : synclaw_Mark.RV R v w) : Ending.returned v = .returned (.tuple #[]) ∧ R w := by
  unfold synclaw_Mark.RV at h
  split at h
  · exact ⟨rfl, h⟩
  · exact h.elim
/-- (*e2e/syncm.Sync).Mark -/
def syncm_Sync_Mark.Call (s : Option Addr) (w : World) (R : World → Prop) : Prop :=
  Calls Tryz.prog 22 #[.pointer s] w fun e w' => e = .returned (.tuple #[]) ∧ R w'
theorem syncm_Sync_Mark.Call.mono {s} {w : World} {R R' : World → Prop} (h : syncm_Sync_Mark.Call s w R) (hr : ∀ w', R w' → R'  w') : syncm_Sync_Mark.Call s w R' :=
  Calls.mono h fun e w' he => by
    obtain ⟨h1, h2⟩ := he
    exact ⟨h1, hr  w' h2⟩
def syncm_Sync_Mark.RV (R : World → Prop) (v : Value) (w : World) : Prop := match v with
  | .tuple ⟨[]⟩ => R w
  | _ => False
theorem syncm_Sync_Mark.RV_elim {R : World → Prop} {v : Value} {w : World} (h : syncm_Sync_Mark.RV R v w) : Ending.returned v = .returned (.tuple #[]) ∧ R w := by
  unfold syncm_Sync_Mark.RV at h
  split at h
  · exact ⟨rfl, h⟩
  · exact h.elim
/-- e2e/synclaw.SameTick -/
def synclaw_SameTick.Call (x m0 : Option Addr) (w : World) (R : Option Addr → Nat → Nat → Option Addr → Nat → Nat → Bool → World → Prop) : Prop :=
  Calls Tryz.prog 23 #[.pointer x, .pointer m0] w fun e w' => ∃ r0_0_b r0_0_l r0_0_c r0_1_b r0_1_l r0_1_c r1, e = .returned (.tuple #[.agg #[.slice r0_0_b r0_0_l r0_0_c, .slice r0_1_b r0_1_l r0_1_c], .bool r1]) ∧ R r0_0_b r0_0_l r0_0_c r0_1_b r0_1_l r0_1_c r1 w'
theorem synclaw_SameTick.Call.mono {x m0} {w : World} {R R' : Option Addr → Nat → Nat → Option Addr → Nat → Nat → Bool → World → Prop} (h : synclaw_SameTick.Call x m0 w R) (hr : ∀ r0_0_b r0_0_l r0_0_c r0_1_b r0_1_l r0_1_c r1 w', R r0_0_b r0_0_l r0_0_c r0_1_b r0_1_l r0_1_c r1 w' → R' r0_0_b r0_0_l r0_0_c r0_1_b r0_1_l r0_1_c r1 w') : synclaw_SameTick.Call x m0 w R' :=
  Calls.mono h fun e w' he => by
    obtain ⟨r0_0_b, r0_0_l, r0_0_c, r0_1_b, r0_1_l, r0_1_c, r1, h1, h2⟩ := he
    exact ⟨r0_0_b, r0_0_l, r0_0_c, r0_1_b, r0_1_l, r0_1_c, r1, h1, hr r0_0_b r0_0_l r0_0_c r0_1_b r0_1_l r0_1_c r1 w' h2⟩
def synclaw_SameTick.RV (R : Option Addr → Nat → Nat → Option Addr → Nat → Nat → Bool → World → Prop) (v : Value) (w : World) : Prop := match v with
  | .tuple ⟨[.agg ⟨[.slice r0_0_b r0_0_l r0_0_c, .slice r0_1_b r0_1_l r0_1_c]⟩, .bool r1]⟩ => R r0_0_b r0_0_l r0_0_c r0_1_b r0_1_l r0_1_c r1 w
  | _ => False
theorem synclaw_SameTick.RV_elim {R : Option Addr → Nat → Nat → Option Addr → Nat → Nat → Bool → World → Prop} {v : Value} {w : World} (h : synclaw_SameTick.RV R v w) : ∃ r0_0_b r0_0_l r0_0_c r0_1_b r0_1_l r0_1_c r1, Ending.returned v = .returned (.tuple #[.agg #[.slice r0_0_b r0_0_l r0_0_c, .slice r0_1_b r0_1_l r0_1_c], .bool r1]) ∧ R r0_0_b r0_0_l r0_0_c r0_1_b r0_1_l r0_1_c r1 w := by
  unfold synclaw_SameTick.RV at h
  split at h
  · exact ⟨_, _, _, _, _, _, _, rfl, h⟩
  · exact h.elim
/-- e2e/synclaw.SameStep -/
def synclaw_SameStep.Call (x m0 : Option Addr) (reg_0 reg_1 reg_2 reg_3 reg_4 reg_5 reg_6 : Int) (reg_7 : Bool) (reg_8_b : Option Addr) (reg_8_l reg_8_c : Nat) (reg_9 : ByteArray) (w : World) (R : Option Addr → Nat → Nat → Option Addr → Nat → Nat → Bool → World → Prop) : Prop :=
  Calls Tryz.prog 24 #[.pointer x, .pointer m0, .agg #[.int .i64 reg_0, .int .i64 reg_1, .int .i64 reg_2, .int .i64 reg_3, .int .i64 reg_4, .int .i64 reg_5, .int .i64 reg_6, .bool reg_7, .slice reg_8_b reg_8_l reg_8_c, .string reg_9]] w fun e w' => ∃ r0_0_b r0_0_l r0_0_c r0_1_b r0_1_l r0_1_c r1, e = .returned (.tuple #[.agg #[.slice r0_0_b r0_0_l r0_0_c, .slice r0_1_b r0_1_l r0_1_c], .bool r1]) ∧ R r0_0_b r0_0_l r0_0_c r0_1_b r0_1_l r0_1_c r1 w'
theorem synclaw_SameStep.Call.mono {x m0 reg_0 reg_1 reg_2 reg_3 reg_4 reg_5 reg_6 reg_7 reg_8_b reg_8_l reg_8_c reg_9} {w : World} {R R' : Option Addr → Nat → Nat → Option Addr → Nat → Nat → Bool → World → Prop} (h : synclaw_SameStep.Call x m0 reg_0 reg_1 reg_2 reg_3 reg_4 reg_5 reg_6 reg_7 reg_8_b reg_8_l reg_8_c reg_9 w R) (hr : ∀ r0_0_b r0_0_l r0_0_c r0_1_b r0_1_l r0_1_c r1 w', R r0_0_b r0_0_l r0_0_c r0_1_b r0_1_l r0_1_c r1 w' → R' r0_0_b r0_0_l r0_0_c r0_1_b r0_1_l r0_1_c r1 w') : synclaw_SameStep.Call x m0 reg_0 reg_1 reg_2 reg_3 reg_4 reg_5 reg_6 reg_7 reg_8_b reg_8_l reg_8_c reg_9 w R' :=
  Calls.mono h fun e w' he => by
    obtain ⟨r0_0_b, r0_0_l, r0_0_c, r0_1_b, r0_1_l, r0_1_c, r1, h1, h2⟩ := he
    exact ⟨r0_0_b, r0_0_l, r0_0_c, r0_1_b, r0_1_l, r0_1_c, r1, h1, hr r0_0_b r0_0_l r0_0_c r0_1_b r0_1_l r0_1_c r1 w' h2⟩
def synclaw_SameStep.RV (R : Option Addr → Nat → Nat → Option Addr → Nat → Nat → Bool → World → Prop) (v : Value) (w : World) : Prop := match v with
  | .tuple ⟨[.agg ⟨[.slice r0_0_b r0_0_l r0_0_c, .slice r0_1_b r0_1_l r0_1_c]⟩, .bool r1]⟩ => R r0_0_b r0_0_l r0_0_c r0_1_b r0_1_l r0_1_c r1 w
  | _ => False
theorem synclaw_SameStep.RV_elim {R : Option Addr → Nat → Nat → Option Addr → Nat → Nat → Bool → World → Prop} {v : Value} {w : World} (h : synclaw_SameStep.RV R v w) : ∃ r0_0_b r0_0_l r0_0_c r0_1_b r0_1_l r0_1_c r1, Ending.returned v = .returned (.tuple #[.agg #[.slice r0_0_b r0_0_l r0_0_c, .slice r0_1_b r0_1_l r0_1_c], .bool r1]) ∧ R r0_0_b r0_0_l r0_0_c r0_1_b r0_1_l r0_1_c r1 w := by
  unfold synclaw_SameStep.RV at h
  split at h
  · exact ⟨_, _, _, _, _, _, _, rfl, h⟩
  · exact h.elim
/-- e2e/synclaw.Write -/
def synclaw_Write.Call (reg_0 reg_1 reg_2 reg_3 reg_4 reg_5 reg_6 : Int) (reg_7 : Bool) (reg_8_b : Option Addr) (reg_8_l reg_8_c : Nat) (reg_9 : ByteArray) (o_0 o_1 o_2 o_3 : Int) (o_4 o_5 : ByteArray) (w : World) (R : Int → Int → Int → Int → Int → Int → Int → Bool → Option Addr → Nat → Nat → ByteArray → World → Prop) : Prop :=
  Calls Tryz.prog 25 #[.agg #[.int .i64 reg_0, .int .i64 reg_1, .int .i64 reg_2, .int .i64 reg_3, .int .i64 reg_4, .int .i64 reg_5, .int .i64 reg_6, .bool reg_7, .slice reg_8_b reg_8_l reg_8_c, .string reg_9], .agg #[.int .i64 o_0, .int .i64 o_1, .int .i64 o_2, .int .i64 o_3, .string o_4, .string o_5]] w fun e w' => ∃ r_0 r_1 r_2 r_3 r_4 r_5 r_6 r_7 r_8_b r_8_l r_8_c r_9, e = .returned (.agg #[.int .i64 r_0, .int .i64 r_1, .int .i64 r_2, .int .i64 r_3, .int .i64 r_4, .int .i64 r_5, .int .i64 r_6, .bool r_7, .slice r_8_b r_8_l r_8_c, .string r_9]) ∧ R r_0 r_1 r_2 r_3 r_4 r_5 r_6 r_7 r_8_b r_8_l r_8_c r_9 w'
theorem synclaw_Write.Call.mono {reg_0 reg_1 reg_2 reg_3 reg_4 reg_5 reg_6 reg_7 reg_8_b reg_8_l reg_8_c reg_9 o_0 o_1 o_2 o_3 o_4 o_5} {w : World} {R R' : Int → Int → Int → Int → Int → Int → Int → Bool → Option Addr → Nat → Nat → ByteArray → World → Prop} (h : synclaw_Write.Call reg_0 reg_1 reg_2 reg_3 reg_4 reg_5 reg_6 reg_7 reg_8_b reg_8_l reg_8_c reg_9 o_0 o_1 o_2 o_3 o_4 o_5 w R) (hr : ∀ r_0 r_1 r_2 r_3 r_4 r_5 r_6 r_7 r_8_b r_8_l r_8_c r_9 w', R r_0 r_1 r_2 r_3 r_4 r_5 r_6 r_7 r_8_b r_8_l r_8_c r_9 w' → R' r_0 r_1 r_2 r_3 r_4 r_5 r_6 r_7 r_8_b r_8_l r_8_c r_9 w') : synclaw_Write.Call reg_0 reg_1 reg_2 reg_3 reg_4 reg_5 reg_6 reg_7 reg_8_b reg_8_l reg_8_c reg_9 o_0 o_1 o_2 o_3 o_4 o_5 w R' :=
  Calls.mono h fun e w' he => by
    obtain ⟨r_0, r_1, r_2, r_3, r_4, r_5, r_6, r_7, r_8_b, r_8_l, r_8_c, r_9, h1, h2⟩ := he
    exact ⟨r_0, r_1, r_2, r_3, r_4, r_5, r_6, r_7, r_8_b, r_8_l, r_8_c, r_9, h1, hr r_0 r_1 r_2 r_3 r_4 r_5 r_6 r_7 r_8_b r_8_l r_8_c r_9 w' h2⟩
def synclaw_Write.RV (R : Int → Int → Int → Int → Int → Int → Int → Bool → Option Addr → Nat → Nat → ByteArray → World → Prop) (v : Value) (w : World) : Prop := match v with
  | .agg ⟨[.int .i64 r_0, .int .i64 r_1, .int .i64 r_2, .int .i64 r_3, .int .i64 r_4, .int .i64 r_5, .int .i64 r_6, .bool r_7, .slice r_8_b r_8_l r_8_c, .string r_9]⟩ => R r_0 r_1 r_2 r_3 r_4 r_5 r_6 r_7 r_8_b r_8_l r_8_c r_9 w
  | _ => False
theorem synclaw_Write.RV_elim {R : Int → Int → Int → Int → Int → Int → Int → Bool → Option Addr → Nat → Nat → ByteArray → World → Prop} {v : Value} {w : World} (h : synclaw_Write.RV R v w) : ∃ r_0 r_1 r_2 r_3 r_4 r_5 r_6 r_7 r_8_b r_8_l r_8_c r_9, Ending.returned v = .returned (.agg #[.int .i64 r_0, .int .i64 r_1, .int .i64 r_2, .int .i64 r_3, .int .i64 r_4, .int .i64 r_5, .int .i64 r_6, .bool r_7, .slice r_8_b r_8_l r_8_c, .string r_9]) ∧ R r_0 r_1 r_2 r_3 r_4 r_5 r_6 r_7 r_8_b r_8_l r_8_c r_9 w := by
  unfold synclaw_Write.RV at h
  split at h
  · exact ⟨_, _, _, _, _, _, _, _, _, _, _, _, rfl, h⟩
  · exact h.elim
/-- e2e/synclaw.Play -/
def synclaw_Play.Call (x m0 : Option Addr) (o_0 o_1 o_2 o_3 : Int) (o_4 o_5 : ByteArray) (w : World) (R : Bool → World → Prop) : Prop :=
  Calls Tryz.prog 26 #[.pointer x, .pointer m0, .agg #[.int .i64 o_0, .int .i64 o_1, .int .i64 o_2, .int .i64 o_3, .string o_4, .string o_5]] w fun e w' => ∃ r, e = .returned (.bool r) ∧ R r w'
theorem synclaw_Play.Call.mono {x m0 o_0 o_1 o_2 o_3 o_4 o_5} {w : World} {R R' : Bool → World → Prop} (h : synclaw_Play.Call x m0 o_0 o_1 o_2 o_3 o_4 o_5 w R) (hr : ∀ r w', R r w' → R' r w') : synclaw_Play.Call x m0 o_0 o_1 o_2 o_3 o_4 o_5 w R' :=
  Calls.mono h fun e w' he => by
    obtain ⟨r, h1, h2⟩ := he
    exact ⟨r, h1, hr r w' h2⟩
def synclaw_Play.RV (R : Bool → World → Prop) (v : Value) (w : World) : Prop := match v with
  | .bool r => R r w
  | _ => False
theorem synclaw_Play.RV_elim {R : Bool → World → Prop} {v : Value} {w : World} (h : synclaw_Play.RV R v w) : ∃ r, Ending.returned v = .returned (.bool r) ∧ R r w := by
  unfold synclaw_Play.RV at h
  split at h
  · exact ⟨_, rfl, h⟩
  · exact h.elim
/-- e2e/synclaw.SameMsgs -/
def synclaw_SameMsgs.Call (a_b : Option Addr) (a_l a_c : Nat) (b_b : Option Addr) (b_l b_c : Nat) (w : World) (R : Bool → World → Prop) : Prop :=
  Calls Tryz.prog 27 #[.slice a_b a_l a_c, .slice b_b b_l b_c] w fun e w' => ∃ r, e = .returned (.bool r) ∧ R r w'
theorem synclaw_SameMsgs.Call.mono {a_b a_l a_c b_b b_l b_c} {w : World} {R R' : Bool → World → Prop} (h : synclaw_SameMsgs.Call a_b a_l a_c b_b b_l b_c w R) (hr : ∀ r w', R r w' → R' r w') : synclaw_SameMsgs.Call a_b a_l a_c b_b b_l b_c w R' :=
  Calls.mono h fun e w' he => by
    obtain ⟨r, h1, h2⟩ := he
    exact ⟨r, h1, hr r w' h2⟩
def synclaw_SameMsgs.RV (R : Bool → World → Prop) (v : Value) (w : World) : Prop := match v with
  | .bool r => R r w
  | _ => False
theorem synclaw_SameMsgs.RV_elim {R : Bool → World → Prop} {v : Value} {w : World} (h : synclaw_SameMsgs.RV R v w) : ∃ r, Ending.returned v = .returned (.bool r) ∧ R r w := by
  unfold synclaw_SameMsgs.RV at h
  split at h
  · exact ⟨_, rfl, h⟩
  · exact h.elim
/-- e2e/synclaw.Untouched -/
def synclaw_Untouched.Call (mine_b : Option Addr) (mine_l mine_c : Nat) (w : World) (R : Bool → World → Prop) : Prop :=
  Calls Tryz.prog 28 #[.slice mine_b mine_l mine_c] w fun e w' => ∃ r, e = .returned (.bool r) ∧ R r w'
theorem synclaw_Untouched.Call.mono {mine_b mine_l mine_c} {w : World} {R R' : Bool → World → Prop} (h : synclaw_Untouched.Call mine_b mine_l mine_c w R) (hr : ∀ r w', R r w' → R' r w') : synclaw_Untouched.Call mine_b mine_l mine_c w R' :=
  Calls.mono h fun e w' he => by
    obtain ⟨r, h1, h2⟩ := he
    exact ⟨r, h1, hr r w' h2⟩
def synclaw_Untouched.RV (R : Bool → World → Prop) (v : Value) (w : World) : Prop := match v with
  | .bool r => R r w
  | _ => False
theorem synclaw_Untouched.RV_elim {R : Bool → World → Prop} {v : Value} {w : World} (h : synclaw_Untouched.RV R v w) : ∃ r, Ending.returned v = .returned (.bool r) ∧ R r w := by
  unfold synclaw_Untouched.RV at h
  split at h
  · exact ⟨_, rfl, h⟩
  · exact h.elim
/-- e2e/synclaw.Spoil -/
def synclaw_Spoil.Call (l_b : Option Addr) (l_l l_c : Nat) (w : World) (R : Option Addr → Nat → Nat → Option Addr → Nat → Nat → World → Prop) : Prop :=
  Calls Tryz.prog 29 #[.slice l_b l_l l_c] w fun e w' => ∃ r_0_b r_0_l r_0_c r_1_b r_1_l r_1_c, e = .returned (.agg #[.slice r_0_b r_0_l r_0_c, .slice r_1_b r_1_l r_1_c]) ∧ R r_0_b r_0_l r_0_c r_1_b r_1_l r_1_c w'
theorem synclaw_Spoil.Call.mono {l_b l_l l_c} {w : World} {R R' : Option Addr → Nat → Nat → Option Addr → Nat → Nat → World → Prop} (h : synclaw_Spoil.Call l_b l_l l_c w R) (hr : ∀ r_0_b r_0_l r_0_c r_1_b r_1_l r_1_c w', R r_0_b r_0_l r_0_c r_1_b r_1_l r_1_c w' → R' r_0_b r_0_l r_0_c r_1_b r_1_l r_1_c w') : synclaw_Spoil.Call l_b l_l l_c w R' :=
  Calls.mono h fun e w' he => by
    obtain ⟨r_0_b, r_0_l, r_0_c, r_1_b, r_1_l, r_1_c, h1, h2⟩ := he
    exact ⟨r_0_b, r_0_l, r_0_c, r_1_b, r_1_l, r_1_c, h1, hr r_0_b r_0_l r_0_c r_1_b r_1_l r_1_c w' h2⟩
def synclaw_Spoil.RV (R : Option Addr → Nat → Nat → Option Addr → Nat → Nat → World → Prop) (v : Value) (w : World) : Prop := match v with
  | .agg ⟨[.slice r_0_b r_0_l r_0_c, .slice r_1_b r_1_l r_1_c]⟩ => R r_0_b r_0_l r_0_c r_1_b r_1_l r_1_c w
  | _ => False
theorem synclaw_Spoil.RV_elim {R : Option Addr → Nat → Nat → Option Addr → Nat → Nat → World → Prop} {v : Value} {w : World} (h : synclaw_Spoil.RV R v w) : ∃ r_0_b r_0_l r_0_c r_1_b r_1_l r_1_c, Ending.returned v = .returned (.agg #[.slice r_0_b r_0_l r_0_c, .slice r_1_b r_1_l r_1_c]) ∧ R r_0_b r_0_l r_0_c r_1_b r_1_l r_1_c w := by
  unfold synclaw_Spoil.RV at h
  split at h
  · exact ⟨_, _, _, _, _, _, rfl, h⟩
  · exact h.elim
/-- e2e/synclaw.Idle -/
def synclaw_Idle.Call (b_0 b_1 m0 : Option Addr) (w : World) (R : Bool → World → Prop) : Prop :=
  Calls Tryz.prog 30 #[.agg #[.pointer b_0, .pointer b_1], .pointer m0] w fun e w' => ∃ r, e = .returned (.bool r) ∧ R r w'
theorem synclaw_Idle.Call.mono {b_0 b_1 m0} {w : World} {R R' : Bool → World → Prop} (h : synclaw_Idle.Call b_0 b_1 m0 w R) (hr : ∀ r w', R r w' → R' r w') : synclaw_Idle.Call b_0 b_1 m0 w R' :=
  Calls.mono h fun e w' he => by
    obtain ⟨r, h1, h2⟩ := he
    exact ⟨r, h1, hr r w' h2⟩
def synclaw_Idle.RV (R : Bool → World → Prop) (v : Value) (w : World) : Prop := match v with
  | .bool r => R r w
  | _ => False
theorem synclaw_Idle.RV_elim {R : Bool → World → Prop} {v : Value} {w : World} (h : synclaw_Idle.RV R v w) : ∃ r, Ending.returned v = .returned (.bool r) ∧ R r w := by
  unfold synclaw_Idle.RV at h
  split at h
  · exact ⟨_, rfl, h⟩
  · exact h.elim
/-- e2e/diskm.New -/
def diskm_New.Call  (w : World) (R : Option Addr → World → Prop) : Prop :=
  Calls Tryz.prog 31 #[] w fun e w' => ∃ r, e = .returned (.pointer r) ∧ R r w'
theorem diskm_New.Call.mono {w : World} {R R' : Option Addr → World → Prop} (h : diskm_New.Call w R) (hr : ∀ r w', R r w' → R' r w') : diskm_New.Call w R' :=
  Calls.mono h fun e w' he => by
    obtain ⟨r, h1, h2⟩ := he
    exact ⟨r, h1, hr r w' h2⟩
def diskm_New.RV (R : Option Addr → World → Prop) (v : Value) (w : World) : Prop := match v with
  | .pointer r => R r w
  | _ => False
theorem diskm_New.RV_elim {R : Option Addr → World → Prop} {v : Value} {w : World} (h : diskm_New.RV R v w) : ∃ r, Ending.returned v = .returned (.pointer r) ∧ R r w := by
  unfold diskm_New.RV at h
  split at h
  · exact ⟨_, rfl, h⟩
  · exact h.elim
/-- e2e/store.Open -/
def store_Open.Call (d : Option Addr) (w : World) (R : Option Addr → World → Prop) : Prop :=
  Calls Tryz.prog 32 #[.pointer d] w fun e w' => ∃ r, e = .returned (.pointer r) ∧ R r w'
theorem store_Open.Call.mono {d} {w : World} {R R' : Option Addr → World → Prop} (h : store_Open.Call d w R) (hr : ∀ r w', R r w' → R' r w') : store_Open.Call d w R' :=
  Calls.mono h fun e w' he => by
    obtain ⟨r, h1, h2⟩ := he
    exact ⟨r, h1, hr r w' h2⟩
def store_Open.RV (R : Option Addr → World → Prop) (v : Value) (w : World) : Prop := match v with
  | .pointer r => R r w
  | _ => False
theorem store_Open.RV_elim {R : Option Addr → World → Prop} {v : Value} {w : World} (h : store_Open.RV R v w) : ∃ r, Ending.returned v = .returned (.pointer r) ∧ R r w := by
  unfold store_Open.RV at h
  split at h
  · exact ⟨_, rfl, h⟩
  · exact h.elim
/-- e2e/rlog.Open -/
def rlog_Open.Call (st : Option Addr) (w : World) (R : Option Addr → World → Prop) : Prop :=
  Calls Tryz.prog 33 #[.pointer st] w fun e w' => ∃ r, e = .returned (.pointer r) ∧ R r w'
theorem rlog_Open.Call.mono {st} {w : World} {R R' : Option Addr → World → Prop} (h : rlog_Open.Call st w R) (hr : ∀ r w', R r w' → R' r w') : rlog_Open.Call st w R' :=
  Calls.mono h fun e w' he => by
    obtain ⟨r, h1, h2⟩ := he
    exact ⟨r, h1, hr r w' h2⟩
def rlog_Open.RV (R : Option Addr → World → Prop) (v : Value) (w : World) : Prop := match v with
  | .pointer r => R r w
  | _ => False
theorem rlog_Open.RV_elim {R : Option Addr → World → Prop} {v : Value} {w : World} (h : rlog_Open.RV R v w) : ∃ r, Ending.returned v = .returned (.pointer r) ∧ R r w := by
  unfold rlog_Open.RV at h
  split at h
  · exact ⟨_, rfl, h⟩
  · exact h.elim
/-- (*e2e/elect.Elect).put -/
def elect_Elect_put.Call (e_1 : Option Addr) (role vote leader : Int) (w : World) (R : World → Prop) : Prop :=
  Calls Tryz.prog 34 #[.pointer e_1, .int .i64 role, .int .i64 vote, .int .i64 leader] w fun e w' => e = .returned (.tuple #[]) ∧ R w'
theorem elect_Elect_put.Call.mono {e_1 role vote leader} {w : World} {R R' : World → Prop} (h : elect_Elect_put.Call e_1 role vote leader w R) (hr : ∀ w', R w' → R'  w') : elect_Elect_put.Call e_1 role vote leader w R' :=
  Calls.mono h fun e w' he => by
    obtain ⟨h1, h2⟩ := he
    exact ⟨h1, hr  w' h2⟩
def elect_Elect_put.RV (R : World → Prop) (v : Value) (w : World) : Prop := match v with
  | .tuple ⟨[]⟩ => R w
  | _ => False
theorem elect_Elect_put.RV_elim {R : World → Prop} {v : Value} {w : World} (h : elect_Elect_put.RV R v w) : Ending.returned v = .returned (.tuple #[]) ∧ R w := by
  unfold elect_Elect_put.RV at h
  split at h
  · exact ⟨rfl, h⟩
  · exact h.elim
/-- (*e2e/elect.Elect).wind -/
def elect_Elect_wind.Call (e_1 : Option Addr) (w : World) (R : World → Prop) : Prop :=
  Calls Tryz.prog 35 #[.pointer e_1] w fun e w' => e = .returned (.tuple #[]) ∧ R w'
theorem elect_Elect_wind.Call.mono {e_1} {w : World} {R R' : World → Prop} (h : elect_Elect_wind.Call e_1 w R) (hr : ∀ w', R w' → R'  w') : elect_Elect_wind.Call e_1 w R' :=
  Calls.mono h fun e w' he => by
    obtain ⟨h1, h2⟩ := he
    exact ⟨h1, hr  w' h2⟩
def elect_Elect_wind.RV (R : World → Prop) (v : Value) (w : World) : Prop := match v with
  | .tuple ⟨[]⟩ => R w
  | _ => False
theorem elect_Elect_wind.RV_elim {R : World → Prop} {v : Value} {w : World} (h : elect_Elect_wind.RV R v w) : Ending.returned v = .returned (.tuple #[]) ∧ R w := by
  unfold elect_Elect_wind.RV at h
  split at h
  · exact ⟨rfl, h⟩
  · exact h.elim
/-- e2e/rlogm.New -/
def rlogm_New.Call  (w : World) (R : Option Addr → World → Prop) : Prop :=
  Calls Tryz.prog 36 #[] w fun e w' => ∃ r, e = .returned (.pointer r) ∧ R r w'
theorem rlogm_New.Call.mono {w : World} {R R' : Option Addr → World → Prop} (h : rlogm_New.Call w R) (hr : ∀ r w', R r w' → R' r w') : rlogm_New.Call w R' :=
  Calls.mono h fun e w' he => by
    obtain ⟨r, h1, h2⟩ := he
    exact ⟨r, h1, hr r w' h2⟩
def rlogm_New.RV (R : Option Addr → World → Prop) (v : Value) (w : World) : Prop := match v with
  | .pointer r => R r w
  | _ => False
theorem rlogm_New.RV_elim {R : Option Addr → World → Prop} {v : Value} {w : World} (h : rlogm_New.RV R v w) : ∃ r, Ending.returned v = .returned (.pointer r) ∧ R r w := by
  unfold rlogm_New.RV at h
  split at h
  · exact ⟨_, rfl, h⟩
  · exact h.elim
/-- e2e/electm.New -/
def electm_New.Call (id0 : Int) (w : World) (R : Option Addr → World → Prop) : Prop :=
  Calls Tryz.prog 37 #[.int .i64 id0] w fun e w' => ∃ r, e = .returned (.pointer r) ∧ R r w'
theorem electm_New.Call.mono {id0} {w : World} {R R' : Option Addr → World → Prop} (h : electm_New.Call id0 w R) (hr : ∀ r w', R r w' → R' r w') : electm_New.Call id0 w R' :=
  Calls.mono h fun e w' he => by
    obtain ⟨r, h1, h2⟩ := he
    exact ⟨r, h1, hr r w' h2⟩
def electm_New.RV (R : Option Addr → World → Prop) (v : Value) (w : World) : Prop := match v with
  | .pointer r => R r w
  | _ => False
theorem electm_New.RV_elim {R : Option Addr → World → Prop} {v : Value} {w : World} (h : electm_New.RV R v w) : ∃ r, Ending.returned v = .returned (.pointer r) ∧ R r w := by
  unfold electm_New.RV at h
  split at h
  · exact ⟨_, rfl, h⟩
  · exact h.elim
/-- e2e/syncm.open -/
def syncm_open.Call (lg el : Option Addr) (w : World) (R : Option Addr → World → Prop) : Prop :=
  Calls Tryz.prog 38 #[.pointer lg, .pointer el] w fun e w' => ∃ r, e = .returned (.pointer r) ∧ R r w'
theorem syncm_open.Call.mono {lg el} {w : World} {R R' : Option Addr → World → Prop} (h : syncm_open.Call lg el w R) (hr : ∀ r w', R r w' → R' r w') : syncm_open.Call lg el w R' :=
  Calls.mono h fun e w' he => by
    obtain ⟨r, h1, h2⟩ := he
    exact ⟨r, h1, hr r w' h2⟩
def syncm_open.RV (R : Option Addr → World → Prop) (v : Value) (w : World) : Prop := match v with
  | .pointer r => R r w
  | _ => False
theorem syncm_open.RV_elim {R : Option Addr → World → Prop} {v : Value} {w : World} (h : syncm_open.RV R v w) : ∃ r, Ending.returned v = .returned (.pointer r) ∧ R r w := by
  unfold syncm_open.RV at h
  split at h
  · exact ⟨_, rfl, h⟩
  · exact h.elim
/-- (*e2e/diskm.Disk).Steps -/
def diskm_Disk_Steps.Call (d : Option Addr) (w : World) (R : Int → World → Prop) : Prop :=
  Calls Tryz.prog 39 #[.pointer d] w fun e w' => ∃ r, e = .returned (.int .i64 r) ∧ R r w'
theorem diskm_Disk_Steps.Call.mono {d} {w : World} {R R' : Int → World → Prop} (h : diskm_Disk_Steps.Call d w R) (hr : ∀ r w', R r w' → R' r w') : diskm_Disk_Steps.Call d w R' :=
  Calls.mono h fun e w' he => by
    obtain ⟨r, h1, h2⟩ := he
    exact ⟨r, h1, hr r w' h2⟩
def diskm_Disk_Steps.RV (R : Int → World → Prop) (v : Value) (w : World) : Prop := match v with
  | .int .i64 r => R r w
  | _ => False
theorem diskm_Disk_Steps.RV_elim {R : Int → World → Prop} {v : Value} {w : World} (h : diskm_Disk_Steps.RV R v w) : ∃ r, Ending.returned v = .returned (.int .i64 r) ∧ R r w := by
  unfold diskm_Disk_Steps.RV at h
  split at h
  · exact ⟨_, rfl, h⟩
  · exact h.elim
/-- (*e2e/diskm.Disk).After -/
def diskm_Disk_After.Call (d : Option Addr) (k : Int) (w : World) (R : Option Addr → World → Prop) : Prop :=
  Calls Tryz.prog 40 #[.pointer d, .int .i64 k] w fun e w' => ∃ r, e = .returned (.pointer r) ∧ R r w'
theorem diskm_Disk_After.Call.mono {d k} {w : World} {R R' : Option Addr → World → Prop} (h : diskm_Disk_After.Call d k w R) (hr : ∀ r w', R r w' → R' r w') : diskm_Disk_After.Call d k w R' :=
  Calls.mono h fun e w' he => by
    obtain ⟨r, h1, h2⟩ := he
    exact ⟨r, h1, hr r w' h2⟩
def diskm_Disk_After.RV (R : Option Addr → World → Prop) (v : Value) (w : World) : Prop := match v with
  | .pointer r => R r w
  | _ => False
theorem diskm_Disk_After.RV_elim {R : Option Addr → World → Prop} {v : Value} {w : World} (h : diskm_Disk_After.RV R v w) : ∃ r, Ending.returned v = .returned (.pointer r) ∧ R r w := by
  unfold diskm_Disk_After.RV at h
  split at h
  · exact ⟨_, rfl, h⟩
  · exact h.elim
/-- (*e2e/diskm.Disk).Mark -/
def diskm_Disk_Mark.Call (d : Option Addr) (w : World) (R : World → Prop) : Prop :=
  Calls Tryz.prog 41 #[.pointer d] w fun e w' => e = .returned (.tuple #[]) ∧ R w'
theorem diskm_Disk_Mark.Call.mono {d} {w : World} {R R' : World → Prop} (h : diskm_Disk_Mark.Call d w R) (hr : ∀ w', R w' → R'  w') : diskm_Disk_Mark.Call d w R' :=
  Calls.mono h fun e w' he => by
    obtain ⟨h1, h2⟩ := he
    exact ⟨h1, hr  w' h2⟩
def diskm_Disk_Mark.RV (R : World → Prop) (v : Value) (w : World) : Prop := match v with
  | .tuple ⟨[]⟩ => R w
  | _ => False
theorem diskm_Disk_Mark.RV_elim {R : World → Prop} {v : Value} {w : World} (h : diskm_Disk_Mark.RV R v w) : Ending.returned v = .returned (.tuple #[]) ∧ R w := by
  unfold diskm_Disk_Mark.RV at h
  split at h
  · exact ⟨rfl, h⟩
  · exact h.elim
/-- (*e2e/rlog.Log).Term -/
def rlog_Log_Term.Call (l : Option Addr) (w : World) (R : Int → World → Prop) : Prop :=
  Calls Tryz.prog 42 #[.pointer l] w fun e w' => ∃ r, e = .returned (.int .i64 r) ∧ R r w'
theorem rlog_Log_Term.Call.mono {l} {w : World} {R R' : Int → World → Prop} (h : rlog_Log_Term.Call l w R) (hr : ∀ r w', R r w' → R' r w') : rlog_Log_Term.Call l w R' :=
  Calls.mono h fun e w' he => by
    obtain ⟨r, h1, h2⟩ := he
    exact ⟨r, h1, hr r w' h2⟩
def rlog_Log_Term.RV (R : Int → World → Prop) (v : Value) (w : World) : Prop := match v with
  | .int .i64 r => R r w
  | _ => False
theorem rlog_Log_Term.RV_elim {R : Int → World → Prop} {v : Value} {w : World} (h : rlog_Log_Term.RV R v w) : ∃ r, Ending.returned v = .returned (.int .i64 r) ∧ R r w := by
  unfold rlog_Log_Term.RV at h
  split at h
  · exact ⟨_, rfl, h⟩
  · exact h.elim
/-- (*e2e/rlog.Log).Vote -/
def rlog_Log_Vote.Call (l : Option Addr) (w : World) (R : Int → World → Prop) : Prop :=
  Calls Tryz.prog 43 #[.pointer l] w fun e w' => ∃ r, e = .returned (.int .i64 r) ∧ R r w'
theorem rlog_Log_Vote.Call.mono {l} {w : World} {R R' : Int → World → Prop} (h : rlog_Log_Vote.Call l w R) (hr : ∀ r w', R r w' → R' r w') : rlog_Log_Vote.Call l w R' :=
  Calls.mono h fun e w' he => by
    obtain ⟨r, h1, h2⟩ := he
    exact ⟨r, h1, hr r w' h2⟩
def rlog_Log_Vote.RV (R : Int → World → Prop) (v : Value) (w : World) : Prop := match v with
  | .int .i64 r => R r w
  | _ => False
theorem rlog_Log_Vote.RV_elim {R : Int → World → Prop} {v : Value} {w : World} (h : rlog_Log_Vote.RV R v w) : ∃ r, Ending.returned v = .returned (.int .i64 r) ∧ R r w := by
  unfold rlog_Log_Vote.RV at h
  split at h
  · exact ⟨_, rfl, h⟩
  · exact h.elim
/-- (*e2e/elect.Elect).Restore -/
def elect_Elect_Restore.Call (e_1 : Option Addr) (term vote : Int) (w : World) (R : Int → World → Prop) : Prop :=
  Calls Tryz.prog 44 #[.pointer e_1, .int .i64 term, .int .i64 vote] w fun e w' => ∃ r, e = .returned (.int .i64 r) ∧ R r w'
theorem elect_Elect_Restore.Call.mono {e_1 term vote} {w : World} {R R' : Int → World → Prop} (h : elect_Elect_Restore.Call e_1 term vote w R) (hr : ∀ r w', R r w' → R' r w') : elect_Elect_Restore.Call e_1 term vote w R' :=
  Calls.mono h fun e w' he => by
    obtain ⟨r, h1, h2⟩ := he
    exact ⟨r, h1, hr r w' h2⟩
def elect_Elect_Restore.RV (R : Int → World → Prop) (v : Value) (w : World) : Prop := match v with
  | .int .i64 r => R r w
  | _ => False
theorem elect_Elect_Restore.RV_elim {R : Int → World → Prop} {v : Value} {w : World} (h : elect_Elect_Restore.RV R v w) : ∃ r, Ending.returned v = .returned (.int .i64 r) ∧ R r w := by
  unfold elect_Elect_Restore.RV at h
  split at h
  · exact ⟨_, rfl, h⟩
  · exact h.elim
/-- (*e2e/rlog.Log).Base -/
def rlog_Log_Base.Call (l : Option Addr) (w : World) (R : Int → World → Prop) : Prop :=
  Calls Tryz.prog 45 #[.pointer l] w fun e w' => ∃ r, e = .returned (.int .i64 r) ∧ R r w'
theorem rlog_Log_Base.Call.mono {l} {w : World} {R R' : Int → World → Prop} (h : rlog_Log_Base.Call l w R) (hr : ∀ r w', R r w' → R' r w') : rlog_Log_Base.Call l w R' :=
  Calls.mono h fun e w' he => by
    obtain ⟨r, h1, h2⟩ := he
    exact ⟨r, h1, hr r w' h2⟩
def rlog_Log_Base.RV (R : Int → World → Prop) (v : Value) (w : World) : Prop := match v with
  | .int .i64 r => R r w
  | _ => False
theorem rlog_Log_Base.RV_elim {R : Int → World → Prop} {v : Value} {w : World} (h : rlog_Log_Base.RV R v w) : ∃ r, Ending.returned v = .returned (.int .i64 r) ∧ R r w := by
  unfold rlog_Log_Base.RV at h
  split at h
  · exact ⟨_, rfl, h⟩
  · exact h.elim
/-- (*e2e/sync.Sync).refresh -/
def sync_Sync_refresh.Call (s : Option Addr) (w : World) (R : World → Prop) : Prop :=
  Calls Tryz.prog 46 #[.pointer s] w fun e w' => e = .returned (.tuple #[]) ∧ R w'
theorem sync_Sync_refresh.Call.mono {s} {w : World} {R R' : World → Prop} (h : sync_Sync_refresh.Call s w R) (hr : ∀ w', R w' → R'  w') : sync_Sync_refresh.Call s w R' :=
  Calls.mono h fun e w' he => by
    obtain ⟨h1, h2⟩ := he
    exact ⟨h1, hr  w' h2⟩
def sync_Sync_refresh.RV (R : World → Prop) (v : Value) (w : World) : Prop := match v with
  | .tuple ⟨[]⟩ => R w
  | _ => False
theorem sync_Sync_refresh.RV_elim {R : World → Prop} {v : Value} {w : World} (h : sync_Sync_refresh.RV R v w) : Ending.returned v = .returned (.tuple #[]) ∧ R w := by
  unfold sync_Sync_refresh.RV at h
  split at h
  · exact ⟨rfl, h⟩
  · exact h.elim
/-- (*e2e/rlog.Log).Last -/
def rlog_Log_Last.Call (l : Option Addr) (w : World) (R : Int → World → Prop) : Prop :=
  Calls Tryz.prog 47 #[.pointer l] w fun e w' => ∃ r, e = .returned (.int .i64 r) ∧ R r w'
theorem rlog_Log_Last.Call.mono {l} {w : World} {R R' : Int → World → Prop} (h : rlog_Log_Last.Call l w R) (hr : ∀ r w', R r w' → R' r w') : rlog_Log_Last.Call l w R' :=
  Calls.mono h fun e w' he => by
    obtain ⟨r, h1, h2⟩ := he
    exact ⟨r, h1, hr r w' h2⟩
def rlog_Log_Last.RV (R : Int → World → Prop) (v : Value) (w : World) : Prop := match v with
  | .int .i64 r => R r w
  | _ => False
theorem rlog_Log_Last.RV_elim {R : Int → World → Prop} {v : Value} {w : World} (h : rlog_Log_Last.RV R v w) : ∃ r, Ending.returned v = .returned (.int .i64 r) ∧ R r w := by
  unfold rlog_Log_Last.RV at h
  split at h
  · exact ⟨_, rfl, h⟩
  · exact h.elim
/-- (*e2e/rlog.Log).TermAt -/
def rlog_Log_TermAt.Call (l : Option Addr) (i : Int) (w : World) (R : Int → Int → World → Prop) : Prop :=
  Calls Tryz.prog 48 #[.pointer l, .int .i64 i] w fun e w' => ∃ r0 r1, e = .returned (.tuple #[.int .i64 r0, .int .i64 r1]) ∧ R r0 r1 w'
theorem rlog_Log_TermAt.Call.mono {l i} {w : World} {R R' : Int → Int → World → Prop} (h : rlog_Log_TermAt.Call l i w R) (hr : ∀ r0 r1 w', R r0 r1 w' → R' r0 r1 w') : rlog_Log_TermAt.Call l i w R' :=
  Calls.mono h fun e w' he => by
    obtain ⟨r0, r1, h1, h2⟩ := he
    exact ⟨r0, r1, h1, hr r0 r1 w' h2⟩
def rlog_Log_TermAt.RV (R : Int → Int → World → Prop) (v : Value) (w : World) : Prop := match v with
  | .tuple ⟨[.int .i64 r0, .int .i64 r1]⟩ => R r0 r1 w
  | _ => False
theorem rlog_Log_TermAt.RV_elim {R : Int → Int → World → Prop} {v : Value} {w : World} (h : rlog_Log_TermAt.RV R v w) : ∃ r0 r1, Ending.returned v = .returned (.tuple #[.int .i64 r0, .int .i64 r1]) ∧ R r0 r1 w := by
  unfold rlog_Log_TermAt.RV at h
  split at h
  · exact ⟨_, _, rfl, h⟩
  · exact h.elim
/-- (*e2e/elect.Elect).Term -/
def elect_Elect_Term.Call (e_1 : Option Addr) (w : World) (R : Int → World → Prop) : Prop :=
  Calls Tryz.prog 49 #[.pointer e_1] w fun e w' => ∃ r, e = .returned (.int .i64 r) ∧ R r w'
theorem elect_Elect_Term.Call.mono {e_1} {w : World} {R R' : Int → World → Prop} (h : elect_Elect_Term.Call e_1 w R) (hr : ∀ r w', R r w' → R' r w') : elect_Elect_Term.Call e_1 w R' :=
  Calls.mono h fun e w' he => by
    obtain ⟨r, h1, h2⟩ := he
    exact ⟨r, h1, hr r w' h2⟩
def elect_Elect_Term.RV (R : Int → World → Prop) (v : Value) (w : World) : Prop := match v with
  | .int .i64 r => R r w
  | _ => False
theorem elect_Elect_Term.RV_elim {R : Int → World → Prop} {v : Value} {w : World} (h : elect_Elect_Term.RV R v w) : ∃ r, Ending.returned v = .returned (.int .i64 r) ∧ R r w := by
  unfold elect_Elect_Term.RV at h
  split at h
  · exact ⟨_, rfl, h⟩
  · exact h.elim
/-- (*e2e/elect.Elect).Vote -/
def elect_Elect_Vote.Call (e_1 : Option Addr) (w : World) (R : Int → World → Prop) : Prop :=
  Calls Tryz.prog 50 #[.pointer e_1] w fun e w' => ∃ r, e = .returned (.int .i64 r) ∧ R r w'
theorem elect_Elect_Vote.Call.mono {e_1} {w : World} {R R' : Int → World → Prop} (h : elect_Elect_Vote.Call e_1 w R) (hr : ∀ r w', R r w' → R' r w') : elect_Elect_Vote.Call e_1 w R' :=
  Calls.mono h fun e w' he => by
    obtain ⟨r, h1, h2⟩ := he
    exact ⟨r, h1, hr r w' h2⟩
def elect_Elect_Vote.RV (R : Int → World → Prop) (v : Value) (w : World) : Prop := match v with
  | .int .i64 r => R r w
  | _ => False
theorem elect_Elect_Vote.RV_elim {R : Int → World → Prop} {v : Value} {w : World} (h : elect_Elect_Vote.RV R v w) : ∃ r, Ending.returned v = .returned (.int .i64 r) ∧ R r w := by
  unfold elect_Elect_Vote.RV at h
  split at h
  · exact ⟨_, rfl, h⟩
  · exact h.elim
/-- (*e2e/elect.Elect).Role -/
def elect_Elect_Role.Call (e_1 : Option Addr) (w : World) (R : Int → World → Prop) : Prop :=
  Calls Tryz.prog 51 #[.pointer e_1] w fun e w' => ∃ r, e = .returned (.int .i64 r) ∧ R r w'
theorem elect_Elect_Role.Call.mono {e_1} {w : World} {R R' : Int → World → Prop} (h : elect_Elect_Role.Call e_1 w R) (hr : ∀ r w', R r w' → R' r w') : elect_Elect_Role.Call e_1 w R' :=
  Calls.mono h fun e w' he => by
    obtain ⟨r, h1, h2⟩ := he
    exact ⟨r, h1, hr r w' h2⟩
def elect_Elect_Role.RV (R : Int → World → Prop) (v : Value) (w : World) : Prop := match v with
  | .int .i64 r => R r w
  | _ => False
theorem elect_Elect_Role.RV_elim {R : Int → World → Prop} {v : Value} {w : World} (h : elect_Elect_Role.RV R v w) : ∃ r, Ending.returned v = .returned (.int .i64 r) ∧ R r w := by
  unfold elect_Elect_Role.RV at h
  split at h
  · exact ⟨_, rfl, h⟩
  · exact h.elim
/-- (*e2e/elect.Elect).Id -/
def elect_Elect_Id.Call (e_1 : Option Addr) (w : World) (R : Int → World → Prop) : Prop :=
  Calls Tryz.prog 52 #[.pointer e_1] w fun e w' => ∃ r, e = .returned (.int .i64 r) ∧ R r w'
theorem elect_Elect_Id.Call.mono {e_1} {w : World} {R R' : Int → World → Prop} (h : elect_Elect_Id.Call e_1 w R) (hr : ∀ r w', R r w' → R' r w') : elect_Elect_Id.Call e_1 w R' :=
  Calls.mono h fun e w' he => by
    obtain ⟨r, h1, h2⟩ := he
    exact ⟨r, h1, hr r w' h2⟩
def elect_Elect_Id.RV (R : Int → World → Prop) (v : Value) (w : World) : Prop := match v with
  | .int .i64 r => R r w
  | _ => False
theorem elect_Elect_Id.RV_elim {R : Int → World → Prop} {v : Value} {w : World} (h : elect_Elect_Id.RV R v w) : ∃ r, Ending.returned v = .returned (.int .i64 r) ∧ R r w := by
  unfold elect_Elect_Id.RV at h
  split at h
  · exact ⟨_, rfl, h⟩
  · exact h.elim
/-- (*e2e/rlogm.Log).Steps -/
def rlogm_Log_Steps.Call (l : Option Addr) (w : World) (R : Int → World → Prop) : Prop :=
  Calls Tryz.prog 53 #[.pointer l] w fun e w' => ∃ r, e = .returned (.int .i64 r) ∧ R r w'
theorem rlogm_Log_Steps.Call.mono {l} {w : World} {R R' : Int → World → Prop} (h : rlogm_Log_Steps.Call l w R) (hr : ∀ r w', R r w' → R' r w') : rlogm_Log_Steps.Call l w R' :=
  Calls.mono h fun e w' he => by
    obtain ⟨r, h1, h2⟩ := he
    exact ⟨r, h1, hr r w' h2⟩
def rlogm_Log_Steps.RV (R : Int → World → Prop) (v : Value) (w : World) : Prop := match v with
  | .int .i64 r => R r w
  | _ => False
theorem rlogm_Log_Steps.RV_elim {R : Int → World → Prop} {v : Value} {w : World} (h : rlogm_Log_Steps.RV R v w) : ∃ r, Ending.returned v = .returned (.int .i64 r) ∧ R r w := by
  unfold rlogm_Log_Steps.RV at h
  split at h
  · exact ⟨_, rfl, h⟩
  · exact h.elim
/-- (*e2e/rlogm.Log).After -/
def rlogm_Log_After.Call (l : Option Addr) (k : Int) (w : World) (R : Option Addr → World → Prop) : Prop :=
  Calls Tryz.prog 54 #[.pointer l, .int .i64 k] w fun e w' => ∃ r, e = .returned (.pointer r) ∧ R r w'
theorem rlogm_Log_After.Call.mono {l k} {w : World} {R R' : Option Addr → World → Prop} (h : rlogm_Log_After.Call l k w R) (hr : ∀ r w', R r w' → R' r w') : rlogm_Log_After.Call l k w R' :=
  Calls.mono h fun e w' he => by
    obtain ⟨r, h1, h2⟩ := he
    exact ⟨r, h1, hr r w' h2⟩
def rlogm_Log_After.RV (R : Option Addr → World → Prop) (v : Value) (w : World) : Prop := match v with
  | .pointer r => R r w
  | _ => False
theorem rlogm_Log_After.RV_elim {R : Option Addr → World → Prop} {v : Value} {w : World} (h : rlogm_Log_After.RV R v w) : ∃ r, Ending.returned v = .returned (.pointer r) ∧ R r w := by
  unfold rlogm_Log_After.RV at h
  split at h
  · exact ⟨_, rfl, h⟩
  · exact h.elim
/-- (*e2e/electm.Elect).Id -/
def electm_Elect_Id.Call (e_1 : Option Addr) (w : World) (R : Int → World → Prop) : Prop :=
  Calls Tryz.prog 55 #[.pointer e_1] w fun e w' => ∃ r, e = .returned (.int .i64 r) ∧ R r w'
theorem electm_Elect_Id.Call.mono {e_1} {w : World} {R R' : Int → World → Prop} (h : electm_Elect_Id.Call e_1 w R) (hr : ∀ r w', R r w' → R' r w') : electm_Elect_Id.Call e_1 w R' :=
  Calls.mono h fun e w' he => by
    obtain ⟨r, h1, h2⟩ := he
    exact ⟨r, h1, hr r w' h2⟩
def electm_Elect_Id.RV (R : Int → World → Prop) (v : Value) (w : World) : Prop := match v with
  | .int .i64 r => R r w
  | _ => False
theorem electm_Elect_Id.RV_elim {R : Int → World → Prop} {v : Value} {w : World} (h : electm_Elect_Id.RV R v w) : ∃ r, Ending.returned v = .returned (.int .i64 r) ∧ R r w := by
  unfold electm_Elect_Id.RV at h
  split at h
  · exact ⟨_, rfl, h⟩
  · exact h.elim
/-- e2e/synclaw.SameView -/
def synclaw_SameView.Call (x m0 : Option Addr) (w : World) (R : Bool → World → Prop) : Prop :=
  Calls Tryz.prog 56 #[.pointer x, .pointer m0] w fun e w' => ∃ r, e = .returned (.bool r) ∧ R r w'
theorem synclaw_SameView.Call.mono {x m0} {w : World} {R R' : Bool → World → Prop} (h : synclaw_SameView.Call x m0 w R) (hr : ∀ r w', R r w' → R' r w') : synclaw_SameView.Call x m0 w R' :=
  Calls.mono h fun e w' he => by
    obtain ⟨r, h1, h2⟩ := he
    exact ⟨r, h1, hr r w' h2⟩
def synclaw_SameView.RV (R : Bool → World → Prop) (v : Value) (w : World) : Prop := match v with
  | .bool r => R r w
  | _ => False
theorem synclaw_SameView.RV_elim {R : Bool → World → Prop} {v : Value} {w : World} (h : synclaw_SameView.RV R v w) : ∃ r, Ending.returned v = .returned (.bool r) ∧ R r w := by
  unfold synclaw_SameView.RV at h
  split at h
  · exact ⟨_, rfl, h⟩
  · exact h.elim
/-- (*e2e/syncm.Sync).View -/
def syncm_Sync_View.Call (s : Option Addr) (w : World) (R : Option Addr → World → Prop) : Prop :=
  Calls Tryz.prog 57 #[.pointer s] w fun e w' => ∃ r, e = .returned (.pointer r) ∧ R r w'
theorem syncm_Sync_View.Call.mono {s} {w : World} {R R' : Option Addr → World → Prop} (h : syncm_Sync_View.Call s w R) (hr : ∀ r w', R r w' → R' r w') : syncm_Sync_View.Call s w R' :=
  Calls.mono h fun e w' he => by
    obtain ⟨r, h1, h2⟩ := he
    exact ⟨r, h1, hr r w' h2⟩
def syncm_Sync_View.RV (R : Option Addr → World → Prop) (v : Value) (w : World) : Prop := match v with
  | .pointer r => R r w
  | _ => False
theorem syncm_Sync_View.RV_elim {R : Option Addr → World → Prop} {v : Value} {w : World} (h : syncm_Sync_View.RV R v w) : ∃ r, Ending.returned v = .returned (.pointer r) ∧ R r w := by
  unfold syncm_Sync_View.RV at h
  split at h
  · exact ⟨_, rfl, h⟩
  · exact h.elim
/-- e2e/synclaw.SameAt -/
def synclaw_SameAt.Call (x m0 : Option Addr) (i : Int) (w : World) (R : Bool → World → Prop) : Prop :=
  Calls Tryz.prog 58 #[.pointer x, .pointer m0, .int .i64 i] w fun e w' => ∃ r, e = .returned (.bool r) ∧ R r w'
theorem synclaw_SameAt.Call.mono {x m0 i} {w : World} {R R' : Bool → World → Prop} (h : synclaw_SameAt.Call x m0 i w R) (hr : ∀ r w', R r w' → R' r w') : synclaw_SameAt.Call x m0 i w R' :=
  Calls.mono h fun e w' he => by
    obtain ⟨r, h1, h2⟩ := he
    exact ⟨r, h1, hr r w' h2⟩
def synclaw_SameAt.RV (R : Bool → World → Prop) (v : Value) (w : World) : Prop := match v with
  | .bool r => R r w
  | _ => False
theorem synclaw_SameAt.RV_elim {R : Bool → World → Prop} {v : Value} {w : World} (h : synclaw_SameAt.RV R v w) : ∃ r, Ending.returned v = .returned (.bool r) ∧ R r w := by
  unfold synclaw_SameAt.RV at h
  split at h
  · exact ⟨_, rfl, h⟩
  · exact h.elim
/-- e2e/synclaw.SameTermAt -/
def synclaw_SameTermAt.Call (x m0 : Option Addr) (i : Int) (w : World) (R : Bool → World → Prop) : Prop :=
  Calls Tryz.prog 59 #[.pointer x, .pointer m0, .int .i64 i] w fun e w' => ∃ r, e = .returned (.bool r) ∧ R r w'
theorem synclaw_SameTermAt.Call.mono {x m0 i} {w : World} {R R' : Bool → World → Prop} (h : synclaw_SameTermAt.Call x m0 i w R) (hr : ∀ r w', R r w' → R' r w') : synclaw_SameTermAt.Call x m0 i w R' :=
  Calls.mono h fun e w' he => by
    obtain ⟨r, h1, h2⟩ := he
    exact ⟨r, h1, hr r w' h2⟩
def synclaw_SameTermAt.RV (R : Bool → World → Prop) (v : Value) (w : World) : Prop := match v with
  | .bool r => R r w
  | _ => False
theorem synclaw_SameTermAt.RV_elim {R : Bool → World → Prop} {v : Value} {w : World} (h : synclaw_SameTermAt.RV R v w) : ∃ r, Ending.returned v = .returned (.bool r) ∧ R r w := by
  unfold synclaw_SameTermAt.RV at h
  split at h
  · exact ⟨_, rfl, h⟩
  · exact h.elim
/-- (*e2e/rlogm.Log).Mark -/
def rlogm_Log_Mark.Call (l : Option Addr) (w : World) (R : World → Prop) : Prop :=
  Calls Tryz.prog 60 #[.pointer l] w fun e w' => e = .returned (.tuple #[]) ∧ R w'
theorem rlogm_Log_Mark.Call.mono {l} {w : World} {R R' : World → Prop} (h : rlogm_Log_Mark.Call l w R) (hr : ∀ w', R w' → R'  w') : rlogm_Log_Mark.Call l w R' :=
  Calls.mono h fun e w' he => by
    obtain ⟨h1, h2⟩ := he
    exact ⟨h1, hr  w' h2⟩
def rlogm_Log_Mark.RV (R : World → Prop) (v : Value) (w : World) : Prop := match v with
  | .tuple ⟨[]⟩ => R w
  | _ => False
theorem rlogm_Log_Mark.RV_elim {R : World → Prop} {v : Value} {w : World} (h : rlogm_Log_Mark.RV R v w) : Ending.returned v = .returned (.tuple #[]) ∧ R w := by
  unfold rlogm_Log_Mark.RV at h
  split at h
  · exact ⟨rfl, h⟩
  · exact h.elim
/-- (*e2e/sync.Sync).Tick -/
def sync_Sync_Tick.Call (s : Option Addr) (w : World) (R : Option Addr → Nat → Nat → World → Prop) : Prop :=
  Calls Tryz.prog 61 #[.pointer s] w fun e w' => ∃ r_b r_l r_c, e = .returned (.slice r_b r_l r_c) ∧ R r_b r_l r_c w'
theorem sync_Sync_Tick.Call.mono {s} {w : World} {R R' : Option Addr → Nat → Nat → World → Prop} (h : sync_Sync_Tick.Call s w R) (hr : ∀ r_b r_l r_c w', R r_b r_l r_c w' → R' r_b r_l r_c w') : sync_Sync_Tick.Call s w R' :=
  Calls.mono h fun e w' he => by
    obtain ⟨r_b, r_l, r_c, h1, h2⟩ := he
    exact ⟨r_b, r_l, r_c, h1, hr r_b r_l r_c w' h2⟩
def sync_Sync_Tick.RV (R : Option Addr → Nat → Nat → World → Prop) (v : Value) (w : World) : Prop := match v with
  | .slice r_b r_l r_c => R r_b r_l r_c w
  | _ => False
theorem sync_Sync_Tick.RV_elim {R : Option Addr → Nat → Nat → World → Prop} {v : Value} {w : World} (h : sync_Sync_Tick.RV R v w) : ∃ r_b r_l r_c, Ending.returned v = .returned (.slice r_b r_l r_c) ∧ R r_b r_l r_c w := by
  unfold sync_Sync_Tick.RV at h
  split at h
  · exact ⟨_, _, _, rfl, h⟩
  · exact h.elim
/-- (*e2e/syncm.Sync).Tick -/
def syncm_Sync_Tick.Call (s : Option Addr) (w : World) (R : Option Addr → Nat → Nat → World → Prop) : Prop :=
  Calls Tryz.prog 62 #[.pointer s] w fun e w' => ∃ r_b r_l r_c, e = .returned (.slice r_b r_l r_c) ∧ R r_b r_l r_c w'
theorem syncm_Sync_Tick.Call.mono {s} {w : World} {R R' : Option Addr → Nat → Nat → World → Prop} (h : syncm_Sync_Tick.Call s w R) (hr : ∀ r_b r_l r_c w', R r_b r_l r_c w' → R' r_b r_l r_c w') : syncm_Sync_Tick.Call s w R' :=
  Calls.mono h fun e w' he => by
    obtain ⟨r_b, r_l, r_c, h1, h2⟩ := he
    exact ⟨r_b, r_l, r_c, h1, hr r_b r_l r_c w' h2⟩
def syncm_Sync_Tick.RV (R : Option Addr → Nat → Nat → World → Prop) (v : Value) (w : World) : Prop := match v with
  | .slice r_b r_l r_c => R r_b r_l r_c w
  | _ => False
theorem syncm_Sync_Tick.RV_elim {R : Option Addr → Nat → Nat → World → Prop} {v : Value} {w : World} (h : syncm_Sync_Tick.RV R v w) : ∃ r_b r_l r_c, Ending.returned v = .returned (.slice r_b r_l r_c) ∧ R r_b r_l r_c w := by
  unfold syncm_Sync_Tick.RV at h
  split at h
  · exact ⟨_, _, _, rfl, h⟩
  · exact h.elim
/-- e2e/synclaw.Apart -/
def synclaw_Apart.Call (a_b : Option Addr) (a_l a_c : Nat) (w : World) (R : Bool → World → Prop) : Prop :=
  Calls Tryz.prog 63 #[.slice a_b a_l a_c] w fun e w' => ∃ r, e = .returned (.bool r) ∧ R r w'
theorem synclaw_Apart.Call.mono {a_b a_l a_c} {w : World} {R R' : Bool → World → Prop} (h : synclaw_Apart.Call a_b a_l a_c w R) (hr : ∀ r w', R r w' → R' r w') : synclaw_Apart.Call a_b a_l a_c w R' :=
  Calls.mono h fun e w' he => by
    obtain ⟨r, h1, h2⟩ := he
    exact ⟨r, h1, hr r w' h2⟩
def synclaw_Apart.RV (R : Bool → World → Prop) (v : Value) (w : World) : Prop := match v with
  | .bool r => R r w
  | _ => False
theorem synclaw_Apart.RV_elim {R : Bool → World → Prop} {v : Value} {w : World} (h : synclaw_Apart.RV R v w) : ∃ r, Ending.returned v = .returned (.bool r) ∧ R r w := by
  unfold synclaw_Apart.RV at h
  split at h
  · exact ⟨_, rfl, h⟩
  · exact h.elim
/-- e2e/synclaw.CopyMsg -/
def synclaw_CopyMsg.Call (m0_0 m0_1 m0_2 m0_3 m0_4 m0_5 m0_6 : Int) (m0_7 : Bool) (m0_8_b : Option Addr) (m0_8_l m0_8_c : Nat) (m0_9 : ByteArray) (w : World) (R : Int → Int → Int → Int → Int → Int → Int → Bool → Option Addr → Nat → Nat → ByteArray → World → Prop) : Prop :=
  Calls Tryz.prog 64 #[.agg #[.int .i64 m0_0, .int .i64 m0_1, .int .i64 m0_2, .int .i64 m0_3, .int .i64 m0_4, .int .i64 m0_5, .int .i64 m0_6, .bool m0_7, .slice m0_8_b m0_8_l m0_8_c, .string m0_9]] w fun e w' => ∃ r_0 r_1 r_2 r_3 r_4 r_5 r_6 r_7 r_8_b r_8_l r_8_c r_9, e = .returned (.agg #[.int .i64 r_0, .int .i64 r_1, .int .i64 r_2, .int .i64 r_3, .int .i64 r_4, .int .i64 r_5, .int .i64 r_6, .bool r_7, .slice r_8_b r_8_l r_8_c, .string r_9]) ∧ R r_0 r_1 r_2 r_3 r_4 r_5 r_6 r_7 r_8_b r_8_l r_8_c r_9 w'
theorem synclaw_CopyMsg.Call.mono {m0_0 m0_1 m0_2 m0_3 m0_4 m0_5 m0_6 m0_7 m0_8_b m0_8_l m0_8_c m0_9} {w : World} {R R' : Int → Int → Int → Int → Int → Int → Int → Bool → Option Addr → Nat → Nat → ByteArray → World → Prop} (h : synclaw_CopyMsg.Call m0_0 m0_1 m0_2 m0_3 m0_4 m0_5 m0_6 m0_7 m0_8_b m0_8_l m0_8_c m0_9 w R) (hr : ∀ r_0 r_1 r_2 r_3 r_4 r_5 r_6 r_7 r_8_b r_8_l r_8_c r_9 w', R r_0 r_1 r_2 r_3 r_4 r_5 r_6 r_7 r_8_b r_8_l r_8_c r_9 w' → R' r_0 r_1 r_2 r_3 r_4 r_5 r_6 r_7 r_8_b r_8_l r_8_c r_9 w') : synclaw_CopyMsg.Call m0_0 m0_1 m0_2 m0_3 m0_4 m0_5 m0_6 m0_7 m0_8_b m0_8_l m0_8_c m0_9 w R' :=
  Calls.mono h fun e w' he => by
    obtain ⟨r_0, r_1, r_2, r_3, r_4, r_5, r_6, r_7, r_8_b, r_8_l, r_8_c, r_9, h1, h2⟩ := he
    exact ⟨r_0, r_1, r_2, r_3, r_4, r_5, r_6, r_7, r_8_b, r_8_l, r_8_c, r_9, h1, hr r_0 r_1 r_2 r_3 r_4 r_5 r_6 r_7 r_8_b r_8_l r_8_c r_9 w' h2⟩
def synclaw_CopyMsg.RV (R : Int → Int → Int → Int → Int → Int → Int → Bool → Option Addr → Nat → Nat → ByteArray → World → Prop) (v : Value) (w : World) : Prop := match v with
  | .agg ⟨[.int .i64 r_0, .int .i64 r_1, .int .i64 r_2, .int .i64 r_3, .int .i64 r_4, .int .i64 r_5, .int .i64 r_6, .bool r_7, .slice r_8_b r_8_l r_8_c, .string r_9]⟩ => R r_0 r_1 r_2 r_3 r_4 r_5 r_6 r_7 r_8_b r_8_l r_8_c r_9 w
  | _ => False
theorem synclaw_CopyMsg.RV_elim {R : Int → Int → Int → Int → Int → Int → Int → Bool → Option Addr → Nat → Nat → ByteArray → World → Prop} {v : Value} {w : World} (h : synclaw_CopyMsg.RV R v w) : ∃ r_0 r_1 r_2 r_3 r_4 r_5 r_6 r_7 r_8_b r_8_l r_8_c r_9, Ending.returned v = .returned (.agg #[.int .i64 r_0, .int .i64 r_1, .int .i64 r_2, .int .i64 r_3, .int .i64 r_4, .int .i64 r_5, .int .i64 r_6, .bool r_7, .slice r_8_b r_8_l r_8_c, .string r_9]) ∧ R r_0 r_1 r_2 r_3 r_4 r_5 r_6 r_7 r_8_b r_8_l r_8_c r_9 w := by
  unfold synclaw_CopyMsg.RV at h
  split at h
  · exact ⟨_, _, _, _, _, _, _, _, _, _, _, _, rfl, h⟩
  · exact h.elim
/-- (*e2e/sync.Sync).Step -/
def sync_Sync_Step.Call (s : Option Addr) (m0_0 m0_1 m0_2 m0_3 m0_4 m0_5 m0_6 : Int) (m0_7 : Bool) (m0_8_b : Option Addr) (m0_8_l m0_8_c : Nat) (m0_9 : ByteArray) (w : World) (R : Option Addr → Nat → Nat → World → Prop) : Prop :=
  Calls Tryz.prog 65 #[.pointer s, .agg #[.int .i64 m0_0, .int .i64 m0_1, .int .i64 m0_2, .int .i64 m0_3, .int .i64 m0_4, .int .i64 m0_5, .int .i64 m0_6, .bool m0_7, .slice m0_8_b m0_8_l m0_8_c, .string m0_9]] w fun e w' => ∃ r_b r_l r_c, e = .returned (.slice r_b r_l r_c) ∧ R r_b r_l r_c w'
theorem sync_Sync_Step.Call.mono {s m0_0 m0_1 m0_2 m0_3 m0_4 m0_5 m0_6 m0_7 m0_8_b m0_8_l m0_8_c m0_9} {w : World} {R R' : Option Addr → Nat → Nat → World → Prop} (h : sync_Sync_Step.Call s m0_0 m0_1 m0_2 m0_3 m0_4 m0_5 m0_6 m0_7 m0_8_b m0_8_l m0_8_c m0_9 w R) (hr : ∀ r_b r_l r_c w', R r_b r_l r_c w' → R' r_b r_l r_c w') : sync_Sync_Step.Call s m0_0 m0_1 m0_2 m0_3 m0_4 m0_5 m0_6 m0_7 m0_8_b m0_8_l m0_8_c m0_9 w R' :=
  Calls.mono h fun e w' he => by
    obtain ⟨r_b, r_l, r_c, h1, h2⟩ := he
    exact ⟨r_b, r_l, r_c, h1, hr r_b r_l r_c w' h2⟩
def sync_Sync_Step.RV (R : Option Addr → Nat → Nat → World → Prop) (v : Value) (w : World) : Prop := match v with
  | .slice r_b r_l r_c => R r_b r_l r_c w
  | _ => False
theorem sync_Sync_Step.RV_elim {R : Option Addr → Nat → Nat → World → Prop} {v : Value} {w : World} (h : sync_Sync_Step.RV R v w) : ∃ r_b r_l r_c, Ending.returned v = .returned (.slice r_b r_l r_c) ∧ R r_b r_l r_c w := by
  unfold sync_Sync_Step.RV at h
  split at h
  · exact ⟨_, _, _, rfl, h⟩
  · exact h.elim
/-- (*e2e/syncm.Sync).Step -/
def syncm_Sync_Step.Call (s : Option Addr) (m0_0 m0_1 m0_2 m0_3 m0_4 m0_5 m0_6 : Int) (m0_7 : Bool) (m0_8_b : Option Addr) (m0_8_l m0_8_c : Nat) (m0_9 : ByteArray) (w : World) (R : Option Addr → Nat → Nat → World → Prop) : Prop :=
  Calls Tryz.prog 66 #[.pointer s, .agg #[.int .i64 m0_0, .int .i64 m0_1, .int .i64 m0_2, .int .i64 m0_3, .int .i64 m0_4, .int .i64 m0_5, .int .i64 m0_6, .bool m0_7, .slice m0_8_b m0_8_l m0_8_c, .string m0_9]] w fun e w' => ∃ r_b r_l r_c, e = .returned (.slice r_b r_l r_c) ∧ R r_b r_l r_c w'
theorem syncm_Sync_Step.Call.mono {s m0_0 m0_1 m0_2 m0_3 m0_4 m0_5 m0_6 m0_7 m0_8_b m0_8_l m0_8_c m0_9} {w : World} {R R' : Option Addr → Nat → Nat → World → Prop} (h : syncm_Sync_Step.Call s m0_0 m0_1 m0_2 m0_3 m0_4 m0_5 m0_6 m0_7 m0_8_b m0_8_l m0_8_c m0_9 w R) (hr : ∀ r_b r_l r_c w', R r_b r_l r_c w' → R' r_b r_l r_c w') : syncm_Sync_Step.Call s m0_0 m0_1 m0_2 m0_3 m0_4 m0_5 m0_6 m0_7 m0_8_b m0_8_l m0_8_c m0_9 w R' :=
  Calls.mono h fun e w' he => by
    obtain ⟨r_b, r_l, r_c, h1, h2⟩ := he
    exact ⟨r_b, r_l, r_c, h1, hr r_b r_l r_c w' h2⟩
def syncm_Sync_Step.RV (R : Option Addr → Nat → Nat → World → Prop) (v : Value) (w : World) : Prop := match v with
  | .slice r_b r_l r_c => R r_b r_l r_c w
  | _ => False
theorem syncm_Sync_Step.RV_elim {R : Option Addr → Nat → Nat → World → Prop} {v : Value} {w : World} (h : syncm_Sync_Step.RV R v w) : ∃ r_b r_l r_c, Ending.returned v = .returned (.slice r_b r_l r_c) ∧ R r_b r_l r_c w := by
  unfold syncm_Sync_Step.RV at h
  split at h
  · exact ⟨_, _, _, rfl, h⟩
  · exact h.elim
/-- e2e/synclaw.SameMsg -/
def synclaw_SameMsg.Call (a_0 a_1 a_2 a_3 a_4 a_5 a_6 : Int) (a_7 : Bool) (a_8_b : Option Addr) (a_8_l a_8_c : Nat) (a_9 : ByteArray) (b_0 b_1 b_2 b_3 b_4 b_5 b_6 : Int) (b_7 : Bool) (b_8_b : Option Addr) (b_8_l b_8_c : Nat) (b_9 : ByteArray) (w : World) (R : Bool → World → Prop) : Prop :=
  Calls Tryz.prog 67 #[.agg #[.int .i64 a_0, .int .i64 a_1, .int .i64 a_2, .int .i64 a_3, .int .i64 a_4, .int .i64 a_5, .int .i64 a_6, .bool a_7, .slice a_8_b a_8_l a_8_c, .string a_9], .agg #[.int .i64 b_0, .int .i64 b_1, .int .i64 b_2, .int .i64 b_3, .int .i64 b_4, .int .i64 b_5, .int .i64 b_6, .bool b_7, .slice b_8_b b_8_l b_8_c, .string b_9]] w fun e w' => ∃ r, e = .returned (.bool r) ∧ R r w'
theorem synclaw_SameMsg.Call.mono {a_0 a_1 a_2 a_3 a_4 a_5 a_6 a_7 a_8_b a_8_l a_8_c a_9 b_0 b_1 b_2 b_3 b_4 b_5 b_6 b_7 b_8_b b_8_l b_8_c b_9} {w : World} {R R' : Bool → World → Prop} (h : synclaw_SameMsg.Call a_0 a_1 a_2 a_3 a_4 a_5 a_6 a_7 a_8_b a_8_l a_8_c a_9 b_0 b_1 b_2 b_3 b_4 b_5 b_6 b_7 b_8_b b_8_l b_8_c b_9 w R) (hr : ∀ r w', R r w' → R' r w') : synclaw_SameMsg.Call a_0 a_1 a_2 a_3 a_4 a_5 a_6 a_7 a_8_b a_8_l a_8_c a_9 b_0 b_1 b_2 b_3 b_4 b_5 b_6 b_7 b_8_b b_8_l b_8_c b_9 w R' :=
  Calls.mono h fun e w' he => by
    obtain ⟨r, h1, h2⟩ := he
    exact ⟨r, h1, hr r w' h2⟩
def synclaw_SameMsg.RV (R : Bool → World → Prop) (v : Value) (w : World) : Prop := match v with
  | .bool r => R r w
  | _ => False
theorem synclaw_SameMsg.RV_elim {R : Bool → World → Prop} {v : Value} {w : World} (h : synclaw_SameMsg.RV R v w) : ∃ r, Ending.returned v = .returned (.bool r) ∧ R r w := by
  unfold synclaw_SameMsg.RV at h
  split at h
  · exact ⟨_, rfl, h⟩
  · exact h.elim
/-- e2e/synclaw.SamePropose -/
def synclaw_SamePropose.Call (x m0 : Option Addr) (data : ByteArray) (w : World) (R : Bool → World → Prop) : Prop :=
  Calls Tryz.prog 68 #[.pointer x, .pointer m0, .string data] w fun e w' => ∃ r, e = .returned (.bool r) ∧ R r w'
theorem synclaw_SamePropose.Call.mono {x m0 data} {w : World} {R R' : Bool → World → Prop} (h : synclaw_SamePropose.Call x m0 data w R) (hr : ∀ r w', R r w' → R' r w') : synclaw_SamePropose.Call x m0 data w R' :=
  Calls.mono h fun e w' he => by
    obtain ⟨r, h1, h2⟩ := he
    exact ⟨r, h1, hr r w' h2⟩
def synclaw_SamePropose.RV (R : Bool → World → Prop) (v : Value) (w : World) : Prop := match v with
  | .bool r => R r w
  | _ => False
theorem synclaw_SamePropose.RV_elim {R : Bool → World → Prop} {v : Value} {w : World} (h : synclaw_SamePropose.RV R v w) : ∃ r, Ending.returned v = .returned (.bool r) ∧ R r w := by
  unfold synclaw_SamePropose.RV at h
  split at h
  · exact ⟨_, rfl, h⟩
  · exact h.elim
/-- e2e/synclaw.SameCompact -/
def synclaw_SameCompact.Call (x m0 : Option Addr) (upTo : Int) (snap : ByteArray) (w : World) (R : Bool → World → Prop) : Prop :=
  Calls Tryz.prog 69 #[.pointer x, .pointer m0, .int .i64 upTo, .string snap] w fun e w' => ∃ r, e = .returned (.bool r) ∧ R r w'
theorem synclaw_SameCompact.Call.mono {x m0 upTo snap} {w : World} {R R' : Bool → World → Prop} (h : synclaw_SameCompact.Call x m0 upTo snap w R) (hr : ∀ r w', R r w' → R' r w') : synclaw_SameCompact.Call x m0 upTo snap w R' :=
  Calls.mono h fun e w' he => by
    obtain ⟨r, h1, h2⟩ := he
    exact ⟨r, h1, hr r w' h2⟩
def synclaw_SameCompact.RV (R : Bool → World → Prop) (v : Value) (w : World) : Prop := match v with
  | .bool r => R r w
  | _ => False
theorem synclaw_SameCompact.RV_elim {R : Bool → World → Prop} {v : Value} {w : World} (h : synclaw_SameCompact.RV R v w) : ∃ r, Ending.returned v = .returned (.bool r) ∧ R r w := by
  unfold synclaw_SameCompact.RV at h
  split at h
  · exact ⟨_, rfl, h⟩
  · exact h.elim
/-- e2e/synclaw.StillStamped -/
def synclaw_StillStamped.Call (k_0_b : Option Addr) (k_0_l k_0_c : Nat) (k_1_b : Option Addr) (k_1_l k_1_c : Nat) (w : World) (R : Bool → World → Prop) : Prop :=
  Calls Tryz.prog 70 #[.agg #[.slice k_0_b k_0_l k_0_c, .slice k_1_b k_1_l k_1_c]] w fun e w' => ∃ r, e = .returned (.bool r) ∧ R r w'
theorem synclaw_StillStamped.Call.mono {k_0_b k_0_l k_0_c k_1_b k_1_l k_1_c} {w : World} {R R' : Bool → World → Prop} (h : synclaw_StillStamped.Call k_0_b k_0_l k_0_c k_1_b k_1_l k_1_c w R) (hr : ∀ r w', R r w' → R' r w') : synclaw_StillStamped.Call k_0_b k_0_l k_0_c k_1_b k_1_l k_1_c w R' :=
  Calls.mono h fun e w' he => by
    obtain ⟨r, h1, h2⟩ := he
    exact ⟨r, h1, hr r w' h2⟩
def synclaw_StillStamped.RV (R : Bool → World → Prop) (v : Value) (w : World) : Prop := match v with
  | .bool r => R r w
  | _ => False
theorem synclaw_StillStamped.RV_elim {R : Bool → World → Prop} {v : Value} {w : World} (h : synclaw_StillStamped.RV R v w) : ∃ r, Ending.returned v = .returned (.bool r) ∧ R r w := by
  unfold synclaw_StillStamped.RV at h
  split at h
  · exact ⟨_, rfl, h⟩
  · exact h.elim
/-- e2e/diskm.blocks -/
def diskm_blocks.Call (a_b : Option Addr) (a_l a_c : Nat) (w : World) (R : Option Addr → Nat → Nat → World → Prop) : Prop :=
  Calls Tryz.prog 71 #[.slice a_b a_l a_c] w fun e w' => ∃ r_b r_l r_c, e = .returned (.slice r_b r_l r_c) ∧ R r_b r_l r_c w'
theorem diskm_blocks.Call.mono {a_b a_l a_c} {w : World} {R R' : Option Addr → Nat → Nat → World → Prop} (h : diskm_blocks.Call a_b a_l a_c w R) (hr : ∀ r_b r_l r_c w', R r_b r_l r_c w' → R' r_b r_l r_c w') : diskm_blocks.Call a_b a_l a_c w R' :=
  Calls.mono h fun e w' he => by
    obtain ⟨r_b, r_l, r_c, h1, h2⟩ := he
    exact ⟨r_b, r_l, r_c, h1, hr r_b r_l r_c w' h2⟩
def diskm_blocks.RV (R : Option Addr → Nat → Nat → World → Prop) (v : Value) (w : World) : Prop := match v with
  | .slice r_b r_l r_c => R r_b r_l r_c w
  | _ => False
theorem diskm_blocks.RV_elim {R : Option Addr → Nat → Nat → World → Prop} {v : Value} {w : World} (h : diskm_blocks.RV R v w) : ∃ r_b r_l r_c, Ending.returned v = .returned (.slice r_b r_l r_c) ∧ R r_b r_l r_c w := by
  unfold diskm_blocks.RV at h
  split at h
  · exact ⟨_, _, _, rfl, h⟩
  · exact h.elim
/-- (*e2e/store.Store).read -/
def store_Store_read.Call (t : Option Addr) (b : Int) (w : World) (R : ByteArray → World → Prop) : Prop :=
  Calls Tryz.prog 72 #[.pointer t, .int .i64 b] w fun e w' => ∃ r, e = .returned (.string r) ∧ R r w'
theorem store_Store_read.Call.mono {t b} {w : World} {R R' : ByteArray → World → Prop} (h : store_Store_read.Call t b w R) (hr : ∀ r w', R r w' → R' r w') : store_Store_read.Call t b w R' :=
  Calls.mono h fun e w' he => by
    obtain ⟨r, h1, h2⟩ := he
    exact ⟨r, h1, hr r w' h2⟩
def store_Store_read.RV (R : ByteArray → World → Prop) (v : Value) (w : World) : Prop := match v with
  | .string r => R r w
  | _ => False
theorem store_Store_read.RV_elim {R : ByteArray → World → Prop} {v : Value} {w : World} (h : store_Store_read.RV R v w) : ∃ r, Ending.returned v = .returned (.string r) ∧ R r w := by
  unfold store_Store_read.RV at h
  split at h
  · exact ⟨_, rfl, h⟩
  · exact h.elim
/-- e2e/store.decMeta -/
def store_decMeta.Call (b : ByteArray) (w : World) (R : Bool → Int → Int → Int → World → Prop) : Prop :=
  Calls Tryz.prog 73 #[.string b] w fun e w' => ∃ r_0 r_1 r_2 r_3, e = .returned (.agg #[.bool r_0, .int .i64 r_1, .int .i64 r_2, .int .i64 r_3]) ∧ R r_0 r_1 r_2 r_3 w'
theorem store_decMeta.Call.mono {b} {w : World} {R R' : Bool → Int → Int → Int → World → Prop} (h : store_decMeta.Call b w R) (hr : ∀ r_0 r_1 r_2 r_3 w', R r_0 r_1 r_2 r_3 w' → R' r_0 r_1 r_2 r_3 w') : store_decMeta.Call b w R' :=
  Calls.mono h fun e w' he => by
    obtain ⟨r_0, r_1, r_2, r_3, h1, h2⟩ := he
    exact ⟨r_0, r_1, r_2, r_3, h1, hr r_0 r_1 r_2 r_3 w' h2⟩
def store_decMeta.RV (R : Bool → Int → Int → Int → World → Prop) (v : Value) (w : World) : Prop := match v with
  | .agg ⟨[.bool r_0, .int .i64 r_1, .int .i64 r_2, .int .i64 r_3]⟩ => R r_0 r_1 r_2 r_3 w
  | _ => False
theorem store_decMeta.RV_elim {R : Bool → Int → Int → Int → World → Prop} {v : Value} {w : World} (h : store_decMeta.RV R v w) : ∃ r_0 r_1 r_2 r_3, Ending.returned v = .returned (.agg #[.bool r_0, .int .i64 r_1, .int .i64 r_2, .int .i64 r_3]) ∧ R r_0 r_1 r_2 r_3 w := by
  unfold store_decMeta.RV at h
  split at h
  · exact ⟨_, _, _, _, rfl, h⟩
  · exact h.elim
/-- e2e/store.decHead -/
def store_decHead.Call (b : ByteArray) (w : World) (R : Bool → Int → Int → Int → Int → Int → World → Prop) : Prop :=
  Calls Tryz.prog 74 #[.string b] w fun e w' => ∃ r_0 r_1 r_2 r_3 r_4 r_5, e = .returned (.agg #[.bool r_0, .int .i64 r_1, .int .i64 r_2, .int .i64 r_3, .int .i64 r_4, .int .i64 r_5]) ∧ R r_0 r_1 r_2 r_3 r_4 r_5 w'
theorem store_decHead.Call.mono {b} {w : World} {R R' : Bool → Int → Int → Int → Int → Int → World → Prop} (h : store_decHead.Call b w R) (hr : ∀ r_0 r_1 r_2 r_3 r_4 r_5 w', R r_0 r_1 r_2 r_3 r_4 r_5 w' → R' r_0 r_1 r_2 r_3 r_4 r_5 w') : store_decHead.Call b w R' :=
  Calls.mono h fun e w' he => by
    obtain ⟨r_0, r_1, r_2, r_3, r_4, r_5, h1, h2⟩ := he
    exact ⟨r_0, r_1, r_2, r_3, r_4, r_5, h1, hr r_0 r_1 r_2 r_3 r_4 r_5 w' h2⟩
def store_decHead.RV (R : Bool → Int → Int → Int → Int → Int → World → Prop) (v : Value) (w : World) : Prop := match v with
  | .agg ⟨[.bool r_0, .int .i64 r_1, .int .i64 r_2, .int .i64 r_3, .int .i64 r_4, .int .i64 r_5]⟩ => R r_0 r_1 r_2 r_3 r_4 r_5 w
  | _ => False
theorem store_decHead.RV_elim {R : Bool → Int → Int → Int → Int → Int → World → Prop} {v : Value} {w : World} (h : store_decHead.RV R v w) : ∃ r_0 r_1 r_2 r_3 r_4 r_5, Ending.returned v = .returned (.agg #[.bool r_0, .int .i64 r_1, .int .i64 r_2, .int .i64 r_3, .int .i64 r_4, .int .i64 r_5]) ∧ R r_0 r_1 r_2 r_3 r_4 r_5 w := by
  unfold store_decHead.RV at h
  split at h
  · exact ⟨_, _, _, _, _, _, rfl, h⟩
  · exact h.elim
/-- (*e2e/store.Store).area -/
def store_Store_area.Call (t : Option Addr) (a n : Int) (w : World) (R : ByteArray → World → Prop) : Prop :=
  Calls Tryz.prog 75 #[.pointer t, .int .i64 a, .int .i64 n] w fun e w' => ∃ r, e = .returned (.string r) ∧ R r w'
theorem store_Store_area.Call.mono {t a n} {w : World} {R R' : ByteArray → World → Prop} (h : store_Store_area.Call t a n w R) (hr : ∀ r w', R r w' → R' r w') : store_Store_area.Call t a n w R' :=
  Calls.mono h fun e w' he => by
    obtain ⟨r, h1, h2⟩ := he
    exact ⟨r, h1, hr r w' h2⟩
def store_Store_area.RV (R : ByteArray → World → Prop) (v : Value) (w : World) : Prop := match v with
  | .string r => R r w
  | _ => False
theorem store_Store_area.RV_elim {R : ByteArray → World → Prop} {v : Value} {w : World} (h : store_Store_area.RV R v w) : ∃ r, Ending.returned v = .returned (.string r) ∧ R r w := by
  unfold store_Store_area.RV at h
  split at h
  · exact ⟨_, rfl, h⟩
  · exact h.elim
/-- e2e/store.decRec -/
def store_decRec.Call (b : ByteArray) (w : World) (R : Int → Int → ByteArray → Bool → World → Prop) : Prop :=
  Calls Tryz.prog 76 #[.string b] w fun e w' => ∃ r0_0 r0_1 r0_2 r1, e = .returned (.tuple #[.agg #[.int .i64 r0_0, .int .i64 r0_1, .string r0_2], .bool r1]) ∧ R r0_0 r0_1 r0_2 r1 w'
theorem store_decRec.Call.mono {b} {w : World} {R R' : Int → Int → ByteArray → Bool → World → Prop} (h : store_decRec.Call b w R) (hr : ∀ r0_0 r0_1 r0_2 r1 w', R r0_0 r0_1 r0_2 r1 w' → R' r0_0 r0_1 r0_2 r1 w') : store_decRec.Call b w R' :=
  Calls.mono h fun e w' he => by
    obtain ⟨r0_0, r0_1, r0_2, r1, h1, h2⟩ := he
    exact ⟨r0_0, r0_1, r0_2, r1, h1, hr r0_0 r0_1 r0_2 r1 w' h2⟩
def store_decRec.RV (R : Int → Int → ByteArray → Bool → World → Prop) (v : Value) (w : World) : Prop := match v with
  | .tuple ⟨[.agg ⟨[.int .i64 r0_0, .int .i64 r0_1, .string r0_2]⟩, .bool r1]⟩ => R r0_0 r0_1 r0_2 r1 w
  | _ => False
theorem store_decRec.RV_elim {R : Int → Int → ByteArray → Bool → World → Prop} {v : Value} {w : World} (h : store_decRec.RV R v w) : ∃ r0_0 r0_1 r0_2 r1, Ending.returned v = .returned (.tuple #[.agg #[.int .i64 r0_0, .int .i64 r0_1, .string r0_2], .bool r1]) ∧ R r0_0 r0_1 r0_2 r1 w := by
  unfold store_decRec.RV at h
  split at h
  · exact ⟨_, _, _, _, rfl, h⟩
  · exact h.elim
/-- (*e2e/store.Store).Meta -/
def store_Store_Meta.Call (t : Option Addr) (w : World) (R : Int → Int → World → Prop) : Prop :=
  Calls Tryz.prog 77 #[.pointer t] w fun e w' => ∃ r0 r1, e = .returned (.tuple #[.int .i64 r0, .int .i64 r1]) ∧ R r0 r1 w'
theorem store_Store_Meta.Call.mono {t} {w : World} {R R' : Int → Int → World → Prop} (h : store_Store_Meta.Call t w R) (hr : ∀ r0 r1 w', R r0 r1 w' → R' r0 r1 w') : store_Store_Meta.Call t w R' :=
  Calls.mono h fun e w' he => by
    obtain ⟨r0, r1, h1, h2⟩ := he
    exact ⟨r0, r1, h1, hr r0 r1 w' h2⟩
def store_Store_Meta.RV (R : Int → Int → World → Prop) (v : Value) (w : World) : Prop := match v with
  | .tuple ⟨[.int .i64 r0, .int .i64 r1]⟩ => R r0 r1 w
  | _ => False
theorem store_Store_Meta.RV_elim {R : Int → Int → World → Prop} {v : Value} {w : World} (h : store_Store_Meta.RV R v w) : ∃ r0 r1, Ending.returned v = .returned (.tuple #[.int .i64 r0, .int .i64 r1]) ∧ R r0 r1 w := by
  unfold store_Store_Meta.RV at h
  split at h
  · exact ⟨_, _, rfl, h⟩
  · exact h.elim
/-- (*e2e/store.Store).Snap -/
def store_Store_Snap.Call (t : Option Addr) (w : World) (R : Int → Int → ByteArray → World → Prop) : Prop :=
  Calls Tryz.prog 78 #[.pointer t] w fun e w' => ∃ r0 r1 r2, e = .returned (.tuple #[.int .i64 r0, .int .i64 r1, .string r2]) ∧ R r0 r1 r2 w'
theorem store_Store_Snap.Call.mono {t} {w : World} {R R' : Int → Int → ByteArray → World → Prop} (h : store_Store_Snap.Call t w R) (hr : ∀ r0 r1 r2 w', R r0 r1 r2 w' → R' r0 r1 r2 w') : store_Store_Snap.Call t w R' :=
  Calls.mono h fun e w' he => by
    obtain ⟨r0, r1, r2, h1, h2⟩ := he
    exact ⟨r0, r1, r2, h1, hr r0 r1 r2 w' h2⟩
def store_Store_Snap.RV (R : Int → Int → ByteArray → World → Prop) (v : Value) (w : World) : Prop := match v with
  | .tuple ⟨[.int .i64 r0, .int .i64 r1, .string r2]⟩ => R r0 r1 r2 w
  | _ => False
theorem store_Store_Snap.RV_elim {R : Int → Int → ByteArray → World → Prop} {v : Value} {w : World} (h : store_Store_Snap.RV R v w) : ∃ r0 r1 r2, Ending.returned v = .returned (.tuple #[.int .i64 r0, .int .i64 r1, .string r2]) ∧ R r0 r1 r2 w := by
  unfold store_Store_Snap.RV at h
  split at h
  · exact ⟨_, _, _, rfl, h⟩
  · exact h.elim
/-- (*e2e/rlog.Log).load -/
def rlog_Log_load.Call (l : Option Addr) (i : Int) (w : World) (R : Bool → World → Prop) : Prop :=
  Calls Tryz.prog 79 #[.pointer l, .int .i64 i] w fun e w' => ∃ r, e = .returned (.bool r) ∧ R r w'
theorem rlog_Log_load.Call.mono {l i} {w : World} {R R' : Bool → World → Prop} (h : rlog_Log_load.Call l i w R) (hr : ∀ r w', R r w' → R' r w') : rlog_Log_load.Call l i w R' :=
  Calls.mono h fun e w' he => by
    obtain ⟨r, h1, h2⟩ := he
    exact ⟨r, h1, hr r w' h2⟩
def rlog_Log_load.RV (R : Bool → World → Prop) (v : Value) (w : World) : Prop := match v with
  | .bool r => R r w
  | _ => False
theorem rlog_Log_load.RV_elim {R : Bool → World → Prop} {v : Value} {w : World} (h : rlog_Log_load.RV R v w) : ∃ r, Ending.returned v = .returned (.bool r) ∧ R r w := by
  unfold rlog_Log_load.RV at h
  split at h
  · exact ⟨_, rfl, h⟩
  · exact h.elim
/-- (*e2e/rlog.Log).sweep -/
def rlog_Log_sweep.Call (l : Option Addr) (w : World) (R : World → Prop) : Prop :=
  Calls Tryz.prog 80 #[.pointer l] w fun e w' => e = .returned (.tuple #[]) ∧ R w'
theorem rlog_Log_sweep.Call.mono {l} {w : World} {R R' : World → Prop} (h : rlog_Log_sweep.Call l w R) (hr : ∀ w', R w' → R'  w') : rlog_Log_sweep.Call l w R' :=
  Calls.mono h fun e w' he => by
    obtain ⟨h1, h2⟩ := he
    exact ⟨h1, hr  w' h2⟩
def rlog_Log_sweep.RV (R : World → Prop) (v : Value) (w : World) : Prop := match v with
  | .tuple ⟨[]⟩ => R w
  | _ => False
theorem rlog_Log_sweep.RV_elim {R : World → Prop} {v : Value} {w : World} (h : rlog_Log_sweep.RV R v w) : Ending.returned v = .returned (.tuple #[]) ∧ R w := by
  unfold rlog_Log_sweep.RV at h
  split at h
  · exact ⟨rfl, h⟩
  · exact h.elim
/-- e2e/api.Timeout -/
def api_Timeout.Call (id0 : Int) (w : World) (R : Int → World → Prop) : Prop :=
  Calls Tryz.prog 81 #[.int .i64 id0] w fun e w' => ∃ r, e = .returned (.int .i64 r) ∧ R r w'
theorem api_Timeout.Call.mono {id0} {w : World} {R R' : Int → World → Prop} (h : api_Timeout.Call id0 w R) (hr : ∀ r w', R r w' → R' r w') : api_Timeout.Call id0 w R' :=
  Calls.mono h fun e w' he => by
    obtain ⟨r, h1, h2⟩ := he
    exact ⟨r, h1, hr r w' h2⟩
def api_Timeout.RV (R : Int → World → Prop) (v : Value) (w : World) : Prop := match v with
  | .int .i64 r => R r w
  | _ => False
theorem api_Timeout.RV_elim {R : Int → World → Prop} {v : Value} {w : World} (h : api_Timeout.RV R v w) : ∃ r, Ending.returned v = .returned (.int .i64 r) ∧ R r w := by
  unfold api_Timeout.RV at h
  split at h
  · exact ⟨_, rfl, h⟩
  · exact h.elim
/-- (*e2e/rlogm.state).clone -/
def rlogm_state_clone.Call (s : Option Addr) (w : World) (R : Option Addr → World → Prop) : Prop :=
  Calls Tryz.prog 82 #[.pointer s] w fun e w' => ∃ r, e = .returned (.pointer r) ∧ R r w'
theorem rlogm_state_clone.Call.mono {s} {w : World} {R R' : Option Addr → World → Prop} (h : rlogm_state_clone.Call s w R) (hr : ∀ r w', R r w' → R' r w') : rlogm_state_clone.Call s w R' :=
  Calls.mono h fun e w' he => by
    obtain ⟨r, h1, h2⟩ := he
    exact ⟨r, h1, hr r w' h2⟩
def rlogm_state_clone.RV (R : Option Addr → World → Prop) (v : Value) (w : World) : Prop := match v with
  | .pointer r => R r w
  | _ => False
theorem rlogm_state_clone.RV_elim {R : Option Addr → World → Prop} {v : Value} {w : World} (h : rlogm_state_clone.RV R v w) : ∃ r, Ending.returned v = .returned (.pointer r) ∧ R r w := by
  unfold rlogm_state_clone.RV at h
  split at h
  · exact ⟨_, rfl, h⟩
  · exact h.elim
/-- (*e2e/rlogm.Log).Term -/
def rlogm_Log_Term.Call (l : Option Addr) (w : World) (R : Int → World → Prop) : Prop :=
  Calls Tryz.prog 83 #[.pointer l] w fun e w' => ∃ r, e = .returned (.int .i64 r) ∧ R r w'
theorem rlogm_Log_Term.Call.mono {l} {w : World} {R R' : Int → World → Prop} (h : rlogm_Log_Term.Call l w R) (hr : ∀ r w', R r w' → R' r w') : rlogm_Log_Term.Call l w R' :=
  Calls.mono h fun e w' he => by
    obtain ⟨r, h1, h2⟩ := he
    exact ⟨r, h1, hr r w' h2⟩
def rlogm_Log_Term.RV (R : Int → World → Prop) (v : Value) (w : World) : Prop := match v with
  | .int .i64 r => R r w
  | _ => False
theorem rlogm_Log_Term.RV_elim {R : Int → World → Prop} {v : Value} {w : World} (h : rlogm_Log_Term.RV R v w) : ∃ r, Ending.returned v = .returned (.int .i64 r) ∧ R r w := by
  unfold rlogm_Log_Term.RV at h
  split at h
  · exact ⟨_, rfl, h⟩
  · exact h.elim
/-- (*e2e/rlogm.Log).Vote -/
def rlogm_Log_Vote.Call (l : Option Addr) (w : World) (R : Int → World → Prop) : Prop :=
  Calls Tryz.prog 84 #[.pointer l] w fun e w' => ∃ r, e = .returned (.int .i64 r) ∧ R r w'
theorem rlogm_Log_Vote.Call.mono {l} {w : World} {R R' : Int → World → Prop} (h : rlogm_Log_Vote.Call l w R) (hr : ∀ r w', R r w' → R' r w') : rlogm_Log_Vote.Call l w R' :=
  Calls.mono h fun e w' he => by
    obtain ⟨r, h1, h2⟩ := he
    exact ⟨r, h1, hr r w' h2⟩
def rlogm_Log_Vote.RV (R : Int → World → Prop) (v : Value) (w : World) : Prop := match v with
  | .int .i64 r => R r w
  | _ => False
theorem rlogm_Log_Vote.RV_elim {R : Int → World → Prop} {v : Value} {w : World} (h : rlogm_Log_Vote.RV R v w) : ∃ r, Ending.returned v = .returned (.int .i64 r) ∧ R r w := by
  unfold rlogm_Log_Vote.RV at h
  split at h
  · exact ⟨_, rfl, h⟩
  · exact h.elim
/-- (*e2e/electm.Elect).Restore -/
def electm_Elect_Restore.Call (e_1 : Option Addr) (term vote : Int) (w : World) (R : Int → World → Prop) : Prop :=
  Calls Tryz.prog 85 #[.pointer e_1, .int .i64 term, .int .i64 vote] w fun e w' => ∃ r, e = .returned (.int .i64 r) ∧ R r w'
theorem electm_Elect_Restore.Call.mono {e_1 term vote} {w : World} {R R' : Int → World → Prop} (h : electm_Elect_Restore.Call e_1 term vote w R) (hr : ∀ r w', R r w' → R' r w') : electm_Elect_Restore.Call e_1 term vote w R' :=
  Calls.mono h fun e w' he => by
    obtain ⟨r, h1, h2⟩ := he
    exact ⟨r, h1, hr r w' h2⟩
def electm_Elect_Restore.RV (R : Int → World → Prop) (v : Value) (w : World) : Prop := match v with
  | .int .i64 r => R r w
  | _ => False
theorem electm_Elect_Restore.RV_elim {R : Int → World → Prop} {v : Value} {w : World} (h : electm_Elect_Restore.RV R v w) : ∃ r, Ending.returned v = .returned (.int .i64 r) ∧ R r w := by
  unfold electm_Elect_Restore.RV at h
  split at h
  · exact ⟨_, rfl, h⟩
  · exact h.elim
/-- (*e2e/rlogm.Log).Base -/
def rlogm_Log_Base.Call (l : Option Addr) (w : World) (R : Int → World → Prop) : Prop :=
  Calls Tryz.prog 86 #[.pointer l] w fun e w' => ∃ r, e = .returned (.int .i64 r) ∧ R r w'
theorem rlogm_Log_Base.Call.mono {l} {w : World} {R R' : Int → World → Prop} (h : rlogm_Log_Base.Call l w R) (hr : ∀ r w', R r w' → R' r w') : rlogm_Log_Base.Call l w R' :=
  Calls.mono h fun e w' he => by
    obtain ⟨r, h1, h2⟩ := he
    exact ⟨r, h1, hr r w' h2⟩
def rlogm_Log_Base.RV (R : Int → World → Prop) (v : Value) (w : World) : Prop := match v with
  | .int .i64 r => R r w
  | _ => False
theorem rlogm_Log_Base.RV_elim {R : Int → World → Prop} {v : Value} {w : World} (h : rlogm_Log_Base.RV R v w) : ∃ r, Ending.returned v = .returned (.int .i64 r) ∧ R r w := by
  unfold rlogm_Log_Base.RV at h
  split at h
  · exact ⟨_, rfl, h⟩
  · exact h.elim
/-- (*e2e/rlog.Log).At -/
def rlog_Log_At.Call (l : Option Addr) (i : Int) (w : World) (R : Int → ByteArray → Int → World → Prop) : Prop :=
  Calls Tryz.prog 87 #[.pointer l, .int .i64 i] w fun e w' => ∃ r0_0 r0_1 r1, e = .returned (.tuple #[.agg #[.int .i64 r0_0, .string r0_1], .int .i64 r1]) ∧ R r0_0 r0_1 r1 w'
theorem rlog_Log_At.Call.mono {l i} {w : World} {R R' : Int → ByteArray → Int → World → Prop} (h : rlog_Log_At.Call l i w R) (hr : ∀ r0_0 r0_1 r1 w', R r0_0 r0_1 r1 w' → R' r0_0 r0_1 r1 w') : rlog_Log_At.Call l i w R' :=
  Calls.mono h fun e w' he => by
    obtain ⟨r0_0, r0_1, r1, h1, h2⟩ := he
    exact ⟨r0_0, r0_1, r1, h1, hr r0_0 r0_1 r1 w' h2⟩
def rlog_Log_At.RV (R : Int → ByteArray → Int → World → Prop) (v : Value) (w : World) : Prop := match v with
  | .tuple ⟨[.agg ⟨[.int .i64 r0_0, .string r0_1]⟩, .int .i64 r1]⟩ => R r0_0 r0_1 r1 w
  | _ => False
theorem rlog_Log_At.RV_elim {R : Int → ByteArray → Int → World → Prop} {v : Value} {w : World} (h : rlog_Log_At.RV R v w) : ∃ r0_0 r0_1 r1, Ending.returned v = .returned (.tuple #[.agg #[.int .i64 r0_0, .string r0_1], .int .i64 r1]) ∧ R r0_0 r0_1 r1 w := by
  unfold rlog_Log_At.RV at h
  split at h
  · exact ⟨_, _, _, rfl, h⟩
  · exact h.elim
/-- (*e2e/sync.Sync).View -/
def sync_Sync_View.Call (s : Option Addr) (w : World) (R : Option Addr → World → Prop) : Prop :=
  Calls Tryz.prog 88 #[.pointer s] w fun e w' => ∃ r, e = .returned (.pointer r) ∧ R r w'
theorem sync_Sync_View.Call.mono {s} {w : World} {R R' : Option Addr → World → Prop} (h : sync_Sync_View.Call s w R) (hr : ∀ r w', R r w' → R' r w') : sync_Sync_View.Call s w R' :=
  Calls.mono h fun e w' he => by
    obtain ⟨r, h1, h2⟩ := he
    exact ⟨r, h1, hr r w' h2⟩
def sync_Sync_View.RV (R : Option Addr → World → Prop) (v : Value) (w : World) : Prop := match v with
  | .pointer r => R r w
  | _ => False
theorem sync_Sync_View.RV_elim {R : Option Addr → World → Prop} {v : Value} {w : World} (h : sync_Sync_View.RV R v w) : ∃ r, Ending.returned v = .returned (.pointer r) ∧ R r w := by
  unfold sync_Sync_View.RV at h
  split at h
  · exact ⟨_, rfl, h⟩
  · exact h.elim
/-- e2e/synclaw.SameViews -/
def synclaw_SameViews.Call (a b : Option Addr) (w : World) (R : Bool → World → Prop) : Prop :=
  Calls Tryz.prog 89 #[.pointer a, .pointer b] w fun e w' => ∃ r, e = .returned (.bool r) ∧ R r w'
theorem synclaw_SameViews.Call.mono {a b} {w : World} {R R' : Bool → World → Prop} (h : synclaw_SameViews.Call a b w R) (hr : ∀ r w', R r w' → R' r w') : synclaw_SameViews.Call a b w R' :=
  Calls.mono h fun e w' he => by
    obtain ⟨r, h1, h2⟩ := he
    exact ⟨r, h1, hr r w' h2⟩
def synclaw_SameViews.RV (R : Bool → World → Prop) (v : Value) (w : World) : Prop := match v with
  | .bool r => R r w
  | _ => False
theorem synclaw_SameViews.RV_elim {R : Bool → World → Prop} {v : Value} {w : World} (h : synclaw_SameViews.RV R v w) : ∃ r, Ending.returned v = .returned (.bool r) ∧ R r w := by
  unfold synclaw_SameViews.RV at h
  split at h
  · exact ⟨_, rfl, h⟩
  · exact h.elim
/-- (*e2e/electm.Elect).Term -/
def electm_Elect_Term.Call (e_1 : Option Addr) (w : World) (R : Int → World → Prop) : Prop :=
  Calls Tryz.prog 90 #[.pointer e_1] w fun e w' => ∃ r, e = .returned (.int .i64 r) ∧ R r w'
theorem electm_Elect_Term.Call.mono {e_1} {w : World} {R R' : Int → World → Prop} (h : electm_Elect_Term.Call e_1 w R) (hr : ∀ r w', R r w' → R' r w') : electm_Elect_Term.Call e_1 w R' :=
  Calls.mono h fun e w' he => by
    obtain ⟨r, h1, h2⟩ := he
    exact ⟨r, h1, hr r w' h2⟩
def electm_Elect_Term.RV (R : Int → World → Prop) (v : Value) (w : World) : Prop := match v with
  | .int .i64 r => R r w
  | _ => False
theorem electm_Elect_Term.RV_elim {R : Int → World → Prop} {v : Value} {w : World} (h : electm_Elect_Term.RV R v w) : ∃ r, Ending.returned v = .returned (.int .i64 r) ∧ R r w := by
  unfold electm_Elect_Term.RV at h
  split at h
  · exact ⟨_, rfl, h⟩
  · exact h.elim
/-- (*e2e/electm.Elect).Vote -/
def electm_Elect_Vote.Call (e_1 : Option Addr) (w : World) (R : Int → World → Prop) : Prop :=
  Calls Tryz.prog 91 #[.pointer e_1] w fun e w' => ∃ r, e = .returned (.int .i64 r) ∧ R r w'
theorem electm_Elect_Vote.Call.mono {e_1} {w : World} {R R' : Int → World → Prop} (h : electm_Elect_Vote.Call e_1 w R) (hr : ∀ r w', R r w' → R' r w') : electm_Elect_Vote.Call e_1 w R' :=
  Calls.mono h fun e w' he => by
    obtain ⟨r, h1, h2⟩ := he
    exact ⟨r, h1, hr r w' h2⟩
def electm_Elect_Vote.RV (R : Int → World → Prop) (v : Value) (w : World) : Prop := match v with
  | .int .i64 r => R r w
  | _ => False
theorem electm_Elect_Vote.RV_elim {R : Int → World → Prop} {v : Value} {w : World} (h : electm_Elect_Vote.RV R v w) : ∃ r, Ending.returned v = .returned (.int .i64 r) ∧ R r w := by
  unfold electm_Elect_Vote.RV at h
  split at h
  · exact ⟨_, rfl, h⟩
  · exact h.elim
/-- (*e2e/electm.Elect).Role -/
def electm_Elect_Role.Call (e_1 : Option Addr) (w : World) (R : Int → World → Prop) : Prop :=
  Calls Tryz.prog 92 #[.pointer e_1] w fun e w' => ∃ r, e = .returned (.int .i64 r) ∧ R r w'
theorem electm_Elect_Role.Call.mono {e_1} {w : World} {R R' : Int → World → Prop} (h : electm_Elect_Role.Call e_1 w R) (hr : ∀ r w', R r w' → R' r w') : electm_Elect_Role.Call e_1 w R' :=
  Calls.mono h fun e w' he => by
    obtain ⟨r, h1, h2⟩ := he
    exact ⟨r, h1, hr r w' h2⟩
def electm_Elect_Role.RV (R : Int → World → Prop) (v : Value) (w : World) : Prop := match v with
  | .int .i64 r => R r w
  | _ => False
theorem electm_Elect_Role.RV_elim {R : Int → World → Prop} {v : Value} {w : World} (h : electm_Elect_Role.RV R v w) : ∃ r, Ending.returned v = .returned (.int .i64 r) ∧ R r w := by
  unfold electm_Elect_Role.RV at h
  split at h
  · exact ⟨_, rfl, h⟩
  · exact h.elim
/-- (*e2e/electm.Elect).Leader -/
def electm_Elect_Leader.Call (e_1 : Option Addr) (w : World) (R : Int → World → Prop) : Prop :=
  Calls Tryz.prog 93 #[.pointer e_1] w fun e w' => ∃ r, e = .returned (.int .i64 r) ∧ R r w'
theorem electm_Elect_Leader.Call.mono {e_1} {w : World} {R R' : Int → World → Prop} (h : electm_Elect_Leader.Call e_1 w R) (hr : ∀ r w', R r w' → R' r w') : electm_Elect_Leader.Call e_1 w R' :=
  Calls.mono h fun e w' he => by
    obtain ⟨r, h1, h2⟩ := he
    exact ⟨r, h1, hr r w' h2⟩
def electm_Elect_Leader.RV (R : Int → World → Prop) (v : Value) (w : World) : Prop := match v with
  | .int .i64 r => R r w
  | _ => False
theorem electm_Elect_Leader.RV_elim {R : Int → World → Prop} {v : Value} {w : World} (h : electm_Elect_Leader.RV R v w) : ∃ r, Ending.returned v = .returned (.int .i64 r) ∧ R r w := by
  unfold electm_Elect_Leader.RV at h
  split at h
  · exact ⟨_, rfl, h⟩
  · exact h.elim
/-- (*e2e/electm.Elect).Clock -/
def electm_Elect_Clock.Call (e_1 : Option Addr) (w : World) (R : Int → World → Prop) : Prop :=
  Calls Tryz.prog 94 #[.pointer e_1] w fun e w' => ∃ r, e = .returned (.int .i64 r) ∧ R r w'
theorem electm_Elect_Clock.Call.mono {e_1} {w : World} {R R' : Int → World → Prop} (h : electm_Elect_Clock.Call e_1 w R) (hr : ∀ r w', R r w' → R' r w') : electm_Elect_Clock.Call e_1 w R' :=
  Calls.mono h fun e w' he => by
    obtain ⟨r, h1, h2⟩ := he
    exact ⟨r, h1, hr r w' h2⟩
def electm_Elect_Clock.RV (R : Int → World → Prop) (v : Value) (w : World) : Prop := match v with
  | .int .i64 r => R r w
  | _ => False
theorem electm_Elect_Clock.RV_elim {R : Int → World → Prop} {v : Value} {w : World} (h : electm_Elect_Clock.RV R v w) : ∃ r, Ending.returned v = .returned (.int .i64 r) ∧ R r w := by
  unfold electm_Elect_Clock.RV at h
  split at h
  · exact ⟨_, rfl, h⟩
  · exact h.elim
/-- (*e2e/electm.Elect).Got -/
def electm_Elect_Got.Call (e_1 : Option Addr) (p : Int) (w : World) (R : Bool → World → Prop) : Prop :=
  Calls Tryz.prog 95 #[.pointer e_1, .int .i64 p] w fun e w' => ∃ r, e = .returned (.bool r) ∧ R r w'
theorem electm_Elect_Got.Call.mono {e_1 p} {w : World} {R R' : Bool → World → Prop} (h : electm_Elect_Got.Call e_1 p w R) (hr : ∀ r w', R r w' → R' r w') : electm_Elect_Got.Call e_1 p w R' :=
  Calls.mono h fun e w' he => by
    obtain ⟨r, h1, h2⟩ := he
    exact ⟨r, h1, hr r w' h2⟩
def electm_Elect_Got.RV (R : Bool → World → Prop) (v : Value) (w : World) : Prop := match v with
  | .bool r => R r w
  | _ => False
theorem electm_Elect_Got.RV_elim {R : Bool → World → Prop} {v : Value} {w : World} (h : electm_Elect_Got.RV R v w) : ∃ r, Ending.returned v = .returned (.bool r) ∧ R r w := by
  unfold electm_Elect_Got.RV at h
  split at h
  · exact ⟨_, rfl, h⟩
  · exact h.elim
/-- (*e2e/rlogm.Log).BaseTerm -/
def rlogm_Log_BaseTerm.Call (l : Option Addr) (w : World) (R : Int → World → Prop) : Prop :=
  Calls Tryz.prog 96 #[.pointer l] w fun e w' => ∃ r, e = .returned (.int .i64 r) ∧ R r w'
theorem rlogm_Log_BaseTerm.Call.mono {l} {w : World} {R R' : Int → World → Prop} (h : rlogm_Log_BaseTerm.Call l w R) (hr : ∀ r w', R r w' → R' r w') : rlogm_Log_BaseTerm.Call l w R' :=
  Calls.mono h fun e w' he => by
    obtain ⟨r, h1, h2⟩ := he
    exact ⟨r, h1, hr r w' h2⟩
def rlogm_Log_BaseTerm.RV (R : Int → World → Prop) (v : Value) (w : World) : Prop := match v with
  | .int .i64 r => R r w
  | _ => False
theorem rlogm_Log_BaseTerm.RV_elim {R : Int → World → Prop} {v : Value} {w : World} (h : rlogm_Log_BaseTerm.RV R v w) : ∃ r, Ending.returned v = .returned (.int .i64 r) ∧ R r w := by
  unfold rlogm_Log_BaseTerm.RV at h
  split at h
  · exact ⟨_, rfl, h⟩
  · exact h.elim
/-- (*e2e/rlogm.Log).Last -/
def rlogm_Log_Last.Call (l : Option Addr) (w : World) (R : Int → World → Prop) : Prop :=
  Calls Tryz.prog 97 #[.pointer l] w fun e w' => ∃ r, e = .returned (.int .i64 r) ∧ R r w'
theorem rlogm_Log_Last.Call.mono {l} {w : World} {R R' : Int → World → Prop} (h : rlogm_Log_Last.Call l w R) (hr : ∀ r w', R r w' → R' r w') : rlogm_Log_Last.Call l w R' :=
  Calls.mono h fun e w' he => by
    obtain ⟨r, h1, h2⟩ := he
    exact ⟨r, h1, hr r w' h2⟩
def rlogm_Log_Last.RV (R : Int → World → Prop) (v : Value) (w : World) : Prop := match v with
  | .int .i64 r => R r w
  | _ => False
theorem rlogm_Log_Last.RV_elim {R : Int → World → Prop} {v : Value} {w : World} (h : rlogm_Log_Last.RV R v w) : ∃ r, Ending.returned v = .returned (.int .i64 r) ∧ R r w := by
  unfold rlogm_Log_Last.RV at h
  split at h
  · exact ⟨_, rfl, h⟩
  · exact h.elim
/-- (*e2e/rlogm.Log).Snap -/
def rlogm_Log_Snap.Call (l : Option Addr) (w : World) (R : ByteArray → World → Prop) : Prop :=
  Calls Tryz.prog 98 #[.pointer l] w fun e w' => ∃ r, e = .returned (.string r) ∧ R r w'
theorem rlogm_Log_Snap.Call.mono {l} {w : World} {R R' : ByteArray → World → Prop} (h : rlogm_Log_Snap.Call l w R) (hr : ∀ r w', R r w' → R' r w') : rlogm_Log_Snap.Call l w R' :=
  Calls.mono h fun e w' he => by
    obtain ⟨r, h1, h2⟩ := he
    exact ⟨r, h1, hr r w' h2⟩
def rlogm_Log_Snap.RV (R : ByteArray → World → Prop) (v : Value) (w : World) : Prop := match v with
  | .string r => R r w
  | _ => False
theorem rlogm_Log_Snap.RV_elim {R : ByteArray → World → Prop} {v : Value} {w : World} (h : rlogm_Log_Snap.RV R v w) : ∃ r, Ending.returned v = .returned (.string r) ∧ R r w := by
  unfold rlogm_Log_Snap.RV at h
  split at h
  · exact ⟨_, rfl, h⟩
  · exact h.elim
/-- (*e2e/sync.Sync).At -/
def sync_Sync_At.Call (s : Option Addr) (i : Int) (w : World) (R : Int → ByteArray → Int → World → Prop) : Prop :=
  Calls Tryz.prog 99 #[.pointer s, .int .i64 i] w fun e w' => ∃ r0_0 r0_1 r1, e = .returned (.tuple #[.agg #[.int .i64 r0_0, .string r0_1], .int .i64 r1]) ∧ R r0_0 r0_1 r1 w'
theorem sync_Sync_At.Call.mono {s i} {w : World} {R R' : Int → ByteArray → Int → World → Prop} (h : sync_Sync_At.Call s i w R) (hr : ∀ r0_0 r0_1 r1 w', R r0_0 r0_1 r1 w' → R' r0_0 r0_1 r1 w') : sync_Sync_At.Call s i w R' :=
  Calls.mono h fun e w' he => by
    obtain ⟨r0_0, r0_1, r1, h1, h2⟩ := he
    exact ⟨r0_0, r0_1, r1, h1, hr r0_0 r0_1 r1 w' h2⟩
def sync_Sync_At.RV (R : Int → ByteArray → Int → World → Prop) (v : Value) (w : World) : Prop := match v with
  | .tuple ⟨[.agg ⟨[.int .i64 r0_0, .string r0_1]⟩, .int .i64 r1]⟩ => R r0_0 r0_1 r1 w
  | _ => False
theorem sync_Sync_At.RV_elim {R : Int → ByteArray → Int → World → Prop} {v : Value} {w : World} (h : sync_Sync_At.RV R v w) : ∃ r0_0 r0_1 r1, Ending.returned v = .returned (.tuple #[.agg #[.int .i64 r0_0, .string r0_1], .int .i64 r1]) ∧ R r0_0 r0_1 r1 w := by
  unfold sync_Sync_At.RV at h
  split at h
  · exact ⟨_, _, _, rfl, h⟩
  · exact h.elim
/-- (*e2e/syncm.Sync).At -/
def syncm_Sync_At.Call (s : Option Addr) (i : Int) (w : World) (R : Int → ByteArray → Int → World → Prop) : Prop :=
  Calls Tryz.prog 100 #[.pointer s, .int .i64 i] w fun e w' => ∃ r0_0 r0_1 r1, e = .returned (.tuple #[.agg #[.int .i64 r0_0, .string r0_1], .int .i64 r1]) ∧ R r0_0 r0_1 r1 w'
theorem syncm_Sync_At.Call.mono {s i} {w : World} {R R' : Int → ByteArray → Int → World → Prop} (h : syncm_Sync_At.Call s i w R) (hr : ∀ r0_0 r0_1 r1 w', R r0_0 r0_1 r1 w' → R' r0_0 r0_1 r1 w') : syncm_Sync_At.Call s i w R' :=
  Calls.mono h fun e w' he => by
    obtain ⟨r0_0, r0_1, r1, h1, h2⟩ := he
    exact ⟨r0_0, r0_1, r1, h1, hr r0_0 r0_1 r1 w' h2⟩
def syncm_Sync_At.RV (R : Int → ByteArray → Int → World → Prop) (v : Value) (w : World) : Prop := match v with
  | .tuple ⟨[.agg ⟨[.int .i64 r0_0, .string r0_1]⟩, .int .i64 r1]⟩ => R r0_0 r0_1 r1 w
  | _ => False
theorem syncm_Sync_At.RV_elim {R : Int → ByteArray → Int → World → Prop} {v : Value} {w : World} (h : syncm_Sync_At.RV R v w) : ∃ r0_0 r0_1 r1, Ending.returned v = .returned (.tuple #[.agg #[.int .i64 r0_0, .string r0_1], .int .i64 r1]) ∧ R r0_0 r0_1 r1 w := by
  unfold syncm_Sync_At.RV at h
  split at h
  · exact ⟨_, _, _, rfl, h⟩
  · exact h.elim
/-- e2e/synclaw.SameEntry -/
def synclaw_SameEntry.Call (a_0 : Int) (a_1 : ByteArray) (b_0 : Int) (b_1 : ByteArray) (w : World) (R : Bool → World → Prop) : Prop :=
  Calls Tryz.prog 101 #[.agg #[.int .i64 a_0, .string a_1], .agg #[.int .i64 b_0, .string b_1]] w fun e w' => ∃ r, e = .returned (.bool r) ∧ R r w'
theorem synclaw_SameEntry.Call.mono {a_0 a_1 b_0 b_1} {w : World} {R R' : Bool → World → Prop} (h : synclaw_SameEntry.Call a_0 a_1 b_0 b_1 w R) (hr : ∀ r w', R r w' → R' r w') : synclaw_SameEntry.Call a_0 a_1 b_0 b_1 w R' :=
  Calls.mono h fun e w' he => by
    obtain ⟨r, h1, h2⟩ := he
    exact ⟨r, h1, hr r w' h2⟩
def synclaw_SameEntry.RV (R : Bool → World → Prop) (v : Value) (w : World) : Prop := match v with
  | .bool r => R r w
  | _ => False
theorem synclaw_SameEntry.RV_elim {R : Bool → World → Prop} {v : Value} {w : World} (h : synclaw_SameEntry.RV R v w) : ∃ r, Ending.returned v = .returned (.bool r) ∧ R r w := by
  unfold synclaw_SameEntry.RV at h
  split at h
  · exact ⟨_, rfl, h⟩
  · exact h.elim
/-- (*e2e/sync.Sync).TermAt -/
def sync_Sync_TermAt.Call (s : Option Addr) (i : Int) (w : World) (R : Int → Int → World → Prop) : Prop :=
  Calls Tryz.prog 102 #[.pointer s, .int .i64 i] w fun e w' => ∃ r0 r1, e = .returned (.tuple #[.int .i64 r0, .int .i64 r1]) ∧ R r0 r1 w'
theorem sync_Sync_TermAt.Call.mono {s i} {w : World} {R R' : Int → Int → World → Prop} (h : sync_Sync_TermAt.Call s i w R) (hr : ∀ r0 r1 w', R r0 r1 w' → R' r0 r1 w') : sync_Sync_TermAt.Call s i w R' :=
  Calls.mono h fun e w' he => by
    obtain ⟨r0, r1, h1, h2⟩ := he
    exact ⟨r0, r1, h1, hr r0 r1 w' h2⟩
def sync_Sync_TermAt.RV (R : Int → Int → World → Prop) (v : Value) (w : World) : Prop := match v with
  | .tuple ⟨[.int .i64 r0, .int .i64 r1]⟩ => R r0 r1 w
  | _ => False
theorem sync_Sync_TermAt.RV_elim {R : Int → Int → World → Prop} {v : Value} {w : World} (h : sync_Sync_TermAt.RV R v w) : ∃ r0 r1, Ending.returned v = .returned (.tuple #[.int .i64 r0, .int .i64 r1]) ∧ R r0 r1 w := by
  unfold sync_Sync_TermAt.RV at h
  split at h
  · exact ⟨_, _, rfl, h⟩
  · exact h.elim
/-- (*e2e/syncm.Sync).TermAt -/
def syncm_Sync_TermAt.Call (s : Option Addr) (i : Int) (w : World) (R : Int → Int → World → Prop) : Prop :=
  Calls Tryz.prog 103 #[.pointer s, .int .i64 i] w fun e w' => ∃ r0 r1, e = .returned (.tuple #[.int .i64 r0, .int .i64 r1]) ∧ R r0 r1 w'
theorem syncm_Sync_TermAt.Call.mono {s i} {w : World} {R R' : Int → Int → World → Prop} (h : syncm_Sync_TermAt.Call s i w R) (hr : ∀ r0 r1 w', R r0 r1 w' → R' r0 r1 w') : syncm_Sync_TermAt.Call s i w R' :=
  Calls.mono h fun e w' he => by
    obtain ⟨r0, r1, h1, h2⟩ := he
    exact ⟨r0, r1, h1, hr r0 r1 w' h2⟩
def syncm_Sync_TermAt.RV (R : Int → Int → World → Prop) (v : Value) (w : World) : Prop := match v with
  | .tuple ⟨[.int .i64 r0, .int .i64 r1]⟩ => R r0 r1 w
  | _ => False
theorem syncm_Sync_TermAt.RV_elim {R : Int → Int → World → Prop} {v : Value} {w : World} (h : syncm_Sync_TermAt.RV R v w) : ∃ r0 r1, Ending.returned v = .returned (.tuple #[.int .i64 r0, .int .i64 r1]) ∧ R r0 r1 w := by
  unfold syncm_Sync_TermAt.RV at h
  split at h
  · exact ⟨_, _, rfl, h⟩
  · exact h.elim
/-- (*e2e/elect.Elect).Tick -/
def elect_Elect_Tick.Call (e_1 : Option Addr) (w : World) (R : Int → World → Prop) : Prop :=
  Calls Tryz.prog 104 #[.pointer e_1] w fun e w' => ∃ r, e = .returned (.int .i64 r) ∧ R r w'
theorem elect_Elect_Tick.Call.mono {e_1} {w : World} {R R' : Int → World → Prop} (h : elect_Elect_Tick.Call e_1 w R) (hr : ∀ r w', R r w' → R' r w') : elect_Elect_Tick.Call e_1 w R' :=
  Calls.mono h fun e w' he => by
    obtain ⟨r, h1, h2⟩ := he
    exact ⟨r, h1, hr r w' h2⟩
def elect_Elect_Tick.RV (R : Int → World → Prop) (v : Value) (w : World) : Prop := match v with
  | .int .i64 r => R r w
  | _ => False
theorem elect_Elect_Tick.RV_elim {R : Int → World → Prop} {v : Value} {w : World} (h : elect_Elect_Tick.RV R v w) : ∃ r, Ending.returned v = .returned (.int .i64 r) ∧ R r w := by
  unfold elect_Elect_Tick.RV at h
  split at h
  · exact ⟨_, rfl, h⟩
  · exact h.elim
/-- (*e2e/sync.Sync).persist -/
def sync_Sync_persist.Call (s : Option Addr) (w : World) (R : World → Prop) : Prop :=
  Calls Tryz.prog 105 #[.pointer s] w fun e w' => e = .returned (.tuple #[]) ∧ R w'
theorem sync_Sync_persist.Call.mono {s} {w : World} {R R' : World → Prop} (h : sync_Sync_persist.Call s w R) (hr : ∀ w', R w' → R'  w') : sync_Sync_persist.Call s w R' :=
  Calls.mono h fun e w' he => by
    obtain ⟨h1, h2⟩ := he
    exact ⟨h1, hr  w' h2⟩
def sync_Sync_persist.RV (R : World → Prop) (v : Value) (w : World) : Prop := match v with
  | .tuple ⟨[]⟩ => R w
  | _ => False
theorem sync_Sync_persist.RV_elim {R : World → Prop} {v : Value} {w : World} (h : sync_Sync_persist.RV R v w) : Ending.returned v = .returned (.tuple #[]) ∧ R w := by
  unfold sync_Sync_persist.RV at h
  split at h
  · exact ⟨rfl, h⟩
  · exact h.elim
/-- (*e2e/sync.Sync).sendAll -/
def sync_Sync_sendAll.Call (s : Option Addr) (w : World) (R : World → Prop) : Prop :=
  Calls Tryz.prog 106 #[.pointer s] w fun e w' => e = .returned (.tuple #[]) ∧ R w'
theorem sync_Sync_sendAll.Call.mono {s} {w : World} {R R' : World → Prop} (h : sync_Sync_sendAll.Call s w R) (hr : ∀ w', R w' → R'  w') : sync_Sync_sendAll.Call s w R' :=
  Calls.mono h fun e w' he => by
    obtain ⟨h1, h2⟩ := he
    exact ⟨h1, hr  w' h2⟩
def sync_Sync_sendAll.RV (R : World → Prop) (v : Value) (w : World) : Prop := match v with
  | .tuple ⟨[]⟩ => R w
  | _ => False
theorem sync_Sync_sendAll.RV_elim {R : World → Prop} {v : Value} {w : World} (h : sync_Sync_sendAll.RV R v w) : Ending.returned v = .returned (.tuple #[]) ∧ R w := by
  unfold sync_Sync_sendAll.RV at h
  split at h
  · exact ⟨rfl, h⟩
  · exact h.elim
/-- (*e2e/sync.Sync).post -/
def sync_Sync_post.Call (s : Option Addr) (m0_0 m0_1 m0_2 m0_3 m0_4 m0_5 m0_6 : Int) (m0_7 : Bool) (m0_8_b : Option Addr) (m0_8_l m0_8_c : Nat) (m0_9 : ByteArray) (w : World) (R : World → Prop) : Prop :=
  Calls Tryz.prog 107 #[.pointer s, .agg #[.int .i64 m0_0, .int .i64 m0_1, .int .i64 m0_2, .int .i64 m0_3, .int .i64 m0_4, .int .i64 m0_5, .int .i64 m0_6, .bool m0_7, .slice m0_8_b m0_8_l m0_8_c, .string m0_9]] w fun e w' => e = .returned (.tuple #[]) ∧ R w'
theorem sync_Sync_post.Call.mono {s m0_0 m0_1 m0_2 m0_3 m0_4 m0_5 m0_6 m0_7 m0_8_b m0_8_l m0_8_c m0_9} {w : World} {R R' : World → Prop} (h : sync_Sync_post.Call s m0_0 m0_1 m0_2 m0_3 m0_4 m0_5 m0_6 m0_7 m0_8_b m0_8_l m0_8_c m0_9 w R) (hr : ∀ w', R w' → R'  w') : sync_Sync_post.Call s m0_0 m0_1 m0_2 m0_3 m0_4 m0_5 m0_6 m0_7 m0_8_b m0_8_l m0_8_c m0_9 w R' :=
  Calls.mono h fun e w' he => by
    obtain ⟨h1, h2⟩ := he
    exact ⟨h1, hr  w' h2⟩
def sync_Sync_post.RV (R : World → Prop) (v : Value) (w : World) : Prop := match v with
  | .tuple ⟨[]⟩ => R w
  | _ => False
theorem sync_Sync_post.RV_elim {R : World → Prop} {v : Value} {w : World} (h : sync_Sync_post.RV R v w) : Ending.returned v = .returned (.tuple #[]) ∧ R w := by
  unfold sync_Sync_post.RV at h
  split at h
  · exact ⟨rfl, h⟩
  · exact h.elim
/-- (*e2e/sync.Sync).flush -/
def sync_Sync_flush.Call (s : Option Addr) (w : World) (R : Option Addr → Nat → Nat → World → Prop) : Prop :=
  Calls Tryz.prog 108 #[.pointer s] w fun e w' => ∃ r_b r_l r_c, e = .returned (.slice r_b r_l r_c) ∧ R r_b r_l r_c w'
theorem sync_Sync_flush.Call.mono {s} {w : World} {R R' : Option Addr → Nat → Nat → World → Prop} (h : sync_Sync_flush.Call s w R) (hr : ∀ r_b r_l r_c w', R r_b r_l r_c w' → R' r_b r_l r_c w') : sync_Sync_flush.Call s w R' :=
  Calls.mono h fun e w' he => by
    obtain ⟨r_b, r_l, r_c, h1, h2⟩ := he
    exact ⟨r_b, r_l, r_c, h1, hr r_b r_l r_c w' h2⟩
def sync_Sync_flush.RV (R : Option Addr → Nat → Nat → World → Prop) (v : Value) (w : World) : Prop := match v with
  | .slice r_b r_l r_c => R r_b r_l r_c w
  | _ => False
theorem sync_Sync_flush.RV_elim {R : Option Addr → Nat → Nat → World → Prop} {v : Value} {w : World} (h : sync_Sync_flush.RV R v w) : ∃ r_b r_l r_c, Ending.returned v = .returned (.slice r_b r_l r_c) ∧ R r_b r_l r_c w := by
  unfold sync_Sync_flush.RV at h
  split at h
  · exact ⟨_, _, _, rfl, h⟩
  · exact h.elim
/-- (*e2e/electm.Elect).Tick -/
def electm_Elect_Tick.Call (e_1 : Option Addr) (w : World) (R : Int → World → Prop) : Prop :=
  Calls Tryz.prog 109 #[.pointer e_1] w fun e w' => ∃ r, e = .returned (.int .i64 r) ∧ R r w'
theorem electm_Elect_Tick.Call.mono {e_1} {w : World} {R R' : Int → World → Prop} (h : electm_Elect_Tick.Call e_1 w R) (hr : ∀ r w', R r w' → R' r w') : electm_Elect_Tick.Call e_1 w R' :=
  Calls.mono h fun e w' he => by
    obtain ⟨r, h1, h2⟩ := he
    exact ⟨r, h1, hr r w' h2⟩
def electm_Elect_Tick.RV (R : Int → World → Prop) (v : Value) (w : World) : Prop := match v with
  | .int .i64 r => R r w
  | _ => False
theorem electm_Elect_Tick.RV_elim {R : Int → World → Prop} {v : Value} {w : World} (h : electm_Elect_Tick.RV R v w) : ∃ r, Ending.returned v = .returned (.int .i64 r) ∧ R r w := by
  unfold electm_Elect_Tick.RV at h
  split at h
  · exact ⟨_, rfl, h⟩
  · exact h.elim
/-- (*e2e/syncm.Sync).persist -/
def syncm_Sync_persist.Call (s : Option Addr) (w : World) (R : World → Prop) : Prop :=
  Calls Tryz.prog 110 #[.pointer s] w fun e w' => e = .returned (.tuple #[]) ∧ R w'
theorem syncm_Sync_persist.Call.mono {s} {w : World} {R R' : World → Prop} (h : syncm_Sync_persist.Call s w R) (hr : ∀ w', R w' → R'  w') : syncm_Sync_persist.Call s w R' :=
  Calls.mono h fun e w' he => by
    obtain ⟨h1, h2⟩ := he
    exact ⟨h1, hr  w' h2⟩
def syncm_Sync_persist.RV (R : World → Prop) (v : Value) (w : World) : Prop := match v with
  | .tuple ⟨[]⟩ => R w
  | _ => False
theorem syncm_Sync_persist.RV_elim {R : World → Prop} {v : Value} {w : World} (h : syncm_Sync_persist.RV R v w) : Ending.returned v = .returned (.tuple #[]) ∧ R w := by
  unfold syncm_Sync_persist.RV at h
  split at h
  · exact ⟨rfl, h⟩
  · exact h.elim
/-- (*e2e/syncm.Sync).sendAll -/
def syncm_Sync_sendAll.Call (s : Option Addr) (w : World) (R : Option Addr → Nat → Nat → World → Prop) : Prop :=
  Calls Tryz.prog 111 #[.pointer s] w fun e w' => ∃ r_b r_l r_c, e = .returned (.slice r_b r_l r_c) ∧ R r_b r_l r_c w'
theorem syncm_Sync_sendAll.Call.mono {s} {w : World} {R R' : Option Addr → Nat → Nat → World → Prop} (h : syncm_Sync_sendAll.Call s w R) (hr : ∀ r_b r_l r_c w', R r_b r_l r_c w' → R' r_b r_l r_c w') : syncm_Sync_sendAll.Call s w R' :=
  Calls.mono h fun e w' he => by
    obtain ⟨r_b, r_l, r_c, h1, h2⟩ := he
    exact ⟨r_b, r_l, r_c, h1, hr r_b r_l r_c w' h2⟩
def syncm_Sync_sendAll.RV (R : Option Addr → Nat → Nat → World → Prop) (v : Value) (w : World) : Prop := match v with
  | .slice r_b r_l r_c => R r_b r_l r_c w
  | _ => False
theorem syncm_Sync_sendAll.RV_elim {R : Option Addr → Nat → Nat → World → Prop} {v : Value} {w : World} (h : syncm_Sync_sendAll.RV R v w) : ∃ r_b r_l r_c, Ending.returned v = .returned (.slice r_b r_l r_c) ∧ R r_b r_l r_c w := by
  unfold syncm_Sync_sendAll.RV at h
  split at h
  · exact ⟨_, _, _, rfl, h⟩
  · exact h.elim
/-- (*e2e/rlogm.Log).TermAt -/
def rlogm_Log_TermAt.Call (l : Option Addr) (i : Int) (w : World) (R : Int → Int → World → Prop) : Prop :=
  Calls Tryz.prog 112 #[.pointer l, .int .i64 i] w fun e w' => ∃ r0 r1, e = .returned (.tuple #[.int .i64 r0, .int .i64 r1]) ∧ R r0 r1 w'
theorem rlogm_Log_TermAt.Call.mono {l i} {w : World} {R R' : Int → Int → World → Prop} (h : rlogm_Log_TermAt.Call l i w R) (hr : ∀ r0 r1 w', R r0 r1 w' → R' r0 r1 w') : rlogm_Log_TermAt.Call l i w R' :=
  Calls.mono h fun e w' he => by
    obtain ⟨r0, r1, h1, h2⟩ := he
    exact ⟨r0, r1, h1, hr r0 r1 w' h2⟩
def rlogm_Log_TermAt.RV (R : Int → Int → World → Prop) (v : Value) (w : World) : Prop := match v with
  | .tuple ⟨[.int .i64 r0, .int .i64 r1]⟩ => R r0 r1 w
  | _ => False
theorem rlogm_Log_TermAt.RV_elim {R : Int → Int → World → Prop} {v : Value} {w : World} (h : rlogm_Log_TermAt.RV R v w) : ∃ r0 r1, Ending.returned v = .returned (.tuple #[.int .i64 r0, .int .i64 r1]) ∧ R r0 r1 w := by
  unfold rlogm_Log_TermAt.RV at h
  split at h
  · exact ⟨_, _, rfl, h⟩
  · exact h.elim
/-- e2e/synclaw.Marked -/
def synclaw_Marked.Call (a_b : Option Addr) (a_l a_c : Nat) (i : Int) (w : World) (R : Bool → World → Prop) : Prop :=
  Calls Tryz.prog 113 #[.slice a_b a_l a_c, .int .i64 i] w fun e w' => ∃ r, e = .returned (.bool r) ∧ R r w'
theorem synclaw_Marked.Call.mono {a_b a_l a_c i} {w : World} {R R' : Bool → World → Prop} (h : synclaw_Marked.Call a_b a_l a_c i w R) (hr : ∀ r w', R r w' → R' r w') : synclaw_Marked.Call a_b a_l a_c i w R' :=
  Calls.mono h fun e w' he => by
    obtain ⟨r, h1, h2⟩ := he
    exact ⟨r, h1, hr r w' h2⟩
def synclaw_Marked.RV (R : Bool → World → Prop) (v : Value) (w : World) : Prop := match v with
  | .bool r => R r w
  | _ => False
theorem synclaw_Marked.RV_elim {R : Bool → World → Prop} {v : Value} {w : World} (h : synclaw_Marked.RV R v w) : ∃ r, Ending.returned v = .returned (.bool r) ∧ R r w := by
  unfold synclaw_Marked.RV at h
  split at h
  · exact ⟨_, rfl, h⟩
  · exact h.elim
/-- e2e/api.MsgOK -/
def api_MsgOK.Call (m0_0 m0_1 m0_2 m0_3 m0_4 m0_5 m0_6 : Int) (m0_7 : Bool) (m0_8_b : Option Addr) (m0_8_l m0_8_c : Nat) (m0_9 : ByteArray) (w : World) (R : Bool → World → Prop) : Prop :=
  Calls Tryz.prog 114 #[.agg #[.int .i64 m0_0, .int .i64 m0_1, .int .i64 m0_2, .int .i64 m0_3, .int .i64 m0_4, .int .i64 m0_5, .int .i64 m0_6, .bool m0_7, .slice m0_8_b m0_8_l m0_8_c, .string m0_9]] w fun e w' => ∃ r, e = .returned (.bool r) ∧ R r w'
theorem api_MsgOK.Call.mono {m0_0 m0_1 m0_2 m0_3 m0_4 m0_5 m0_6 m0_7 m0_8_b m0_8_l m0_8_c m0_9} {w : World} {R R' : Bool → World → Prop} (h : api_MsgOK.Call m0_0 m0_1 m0_2 m0_3 m0_4 m0_5 m0_6 m0_7 m0_8_b m0_8_l m0_8_c m0_9 w R) (hr : ∀ r w', R r w' → R' r w') : api_MsgOK.Call m0_0 m0_1 m0_2 m0_3 m0_4 m0_5 m0_6 m0_7 m0_8_b m0_8_l m0_8_c m0_9 w R' :=
  Calls.mono h fun e w' he => by
    obtain ⟨r, h1, h2⟩ := he
    exact ⟨r, h1, hr r w' h2⟩
def api_MsgOK.RV (R : Bool → World → Prop) (v : Value) (w : World) : Prop := match v with
  | .bool r => R r w
  | _ => False
theorem api_MsgOK.RV_elim {R : Bool → World → Prop} {v : Value} {w : World} (h : api_MsgOK.RV R v w) : ∃ r, Ending.returned v = .returned (.bool r) ∧ R r w := by
  unfold api_MsgOK.RV at h
  split at h
  · exact ⟨_, rfl, h⟩
  · exact h.elim
/-- (*e2e/sync.Sync).voteAsked -/
def sync_Sync_voteAsked.Call (s : Option Addr) (m0_0 m0_1 m0_2 m0_3 m0_4 m0_5 m0_6 : Int) (m0_7 : Bool) (m0_8_b : Option Addr) (m0_8_l m0_8_c : Nat) (m0_9 : ByteArray) (w : World) (R : World → Prop) : Prop :=
  Calls Tryz.prog 115 #[.pointer s, .agg #[.int .i64 m0_0, .int .i64 m0_1, .int .i64 m0_2, .int .i64 m0_3, .int .i64 m0_4, .int .i64 m0_5, .int .i64 m0_6, .bool m0_7, .slice m0_8_b m0_8_l m0_8_c, .string m0_9]] w fun e w' => e = .returned (.tuple #[]) ∧ R w'
theorem sync_Sync_voteAsked.Call.mono {s m0_0 m0_1 m0_2 m0_3 m0_4 m0_5 m0_6 m0_7 m0_8_b m0_8_l m0_8_c m0_9} {w : World} {R R' : World → Prop} (h : sync_Sync_voteAsked.Call s m0_0 m0_1 m0_2 m0_3 m0_4 m0_5 m0_6 m0_7 m0_8_b m0_8_l m0_8_c m0_9 w R) (hr : ∀ w', R w' → R'  w') : sync_Sync_voteAsked.Call s m0_0 m0_1 m0_2 m0_3 m0_4 m0_5 m0_6 m0_7 m0_8_b m0_8_l m0_8_c m0_9 w R' :=
  Calls.mono h fun e w' he => by
    obtain ⟨h1, h2⟩ := he
    exact ⟨h1, hr  w' h2⟩
def sync_Sync_voteAsked.RV (R : World → Prop) (v : Value) (w : World) : Prop := match v with
  | .tuple ⟨[]⟩ => R w
  | _ => False
theorem sync_Sync_voteAsked.RV_elim {R : World → Prop} {v : Value} {w : World} (h : sync_Sync_voteAsked.RV R v w) : Ending.returned v = .returned (.tuple #[]) ∧ R w := by
  unfold sync_Sync_voteAsked.RV at h
  split at h
  · exact ⟨rfl, h⟩
  · exact h.elim
/-- (*e2e/sync.Sync).voteCame -/
def sync_Sync_voteCame.Call (s : Option Addr) (m0_0 m0_1 m0_2 m0_3 m0_4 m0_5 m0_6 : Int) (m0_7 : Bool) (m0_8_b : Option Addr) (m0_8_l m0_8_c : Nat) (m0_9 : ByteArray) (w : World) (R : World → Prop) : Prop :=
  Calls Tryz.prog 116 #[.pointer s, .agg #[.int .i64 m0_0, .int .i64 m0_1, .int .i64 m0_2, .int .i64 m0_3, .int .i64 m0_4, .int .i64 m0_5, .int .i64 m0_6, .bool m0_7, .slice m0_8_b m0_8_l m0_8_c, .string m0_9]] w fun e w' => e = .returned (.tuple #[]) ∧ R w'
theorem sync_Sync_voteCame.Call.mono {s m0_0 m0_1 m0_2 m0_3 m0_4 m0_5 m0_6 m0_7 m0_8_b m0_8_l m0_8_c m0_9} {w : World} {R R' : World → Prop} (h : sync_Sync_voteCame.Call s m0_0 m0_1 m0_2 m0_3 m0_4 m0_5 m0_6 m0_7 m0_8_b m0_8_l m0_8_c m0_9 w R) (hr : ∀ w', R w' → R'  w') : sync_Sync_voteCame.Call s m0_0 m0_1 m0_2 m0_3 m0_4 m0_5 m0_6 m0_7 m0_8_b m0_8_l m0_8_c m0_9 w R' :=
  Calls.mono h fun e w' he => by
    obtain ⟨h1, h2⟩ := he
    exact ⟨h1, hr  w' h2⟩
def sync_Sync_voteCame.RV (R : World → Prop) (v : Value) (w : World) : Prop := match v with
  | .tuple ⟨[]⟩ => R w
  | _ => False
theorem sync_Sync_voteCame.RV_elim {R : World → Prop} {v : Value} {w : World} (h : sync_Sync_voteCame.RV R v w) : Ending.returned v = .returned (.tuple #[]) ∧ R w := by
  unfold sync_Sync_voteCame.RV at h
  split at h
  · exact ⟨rfl, h⟩
  · exact h.elim
/-- (*e2e/sync.Sync).entriesCame -/
def sync_Sync_entriesCame.Call (s : Option Addr) (m0_0 m0_1 m0_2 m0_3 m0_4 m0_5 m0_6 : Int) (m0_7 : Bool) (m0_8_b : Option Addr) (m0_8_l m0_8_c : Nat) (m0_9 : ByteArray) (w : World) (R : World → Prop) : Prop :=
  Calls Tryz.prog 117 #[.pointer s, .agg #[.int .i64 m0_0, .int .i64 m0_1, .int .i64 m0_2, .int .i64 m0_3, .int .i64 m0_4, .int .i64 m0_5, .int .i64 m0_6, .bool m0_7, .slice m0_8_b m0_8_l m0_8_c, .string m0_9]] w fun e w' => e = .returned (.tuple #[]) ∧ R w'
theorem sync_Sync_entriesCame.Call.mono {s m0_0 m0_1 m0_2 m0_3 m0_4 m0_5 m0_6 m0_7 m0_8_b m0_8_l m0_8_c m0_9} {w : World} {R R' : World → Prop} (h : sync_Sync_entriesCame.Call s m0_0 m0_1 m0_2 m0_3 m0_4 m0_5 m0_6 m0_7 m0_8_b m0_8_l m0_8_c m0_9 w R) (hr : ∀ w', R w' → R'  w') : sync_Sync_entriesCame.Call s m0_0 m0_1 m0_2 m0_3 m0_4 m0_5 m0_6 m0_7 m0_8_b m0_8_l m0_8_c m0_9 w R' :=
  Calls.mono h fun e w' he => by
    obtain ⟨h1, h2⟩ := he
    exact ⟨h1, hr  w' h2⟩
def sync_Sync_entriesCame.RV (R : World → Prop) (v : Value) (w : World) : Prop := match v with
  | .tuple ⟨[]⟩ => R w
  | _ => False
theorem sync_Sync_entriesCame.RV_elim {R : World → Prop} {v : Value} {w : World} (h : sync_Sync_entriesCame.RV R v w) : Ending.returned v = .returned (.tuple #[]) ∧ R w := by
  unfold sync_Sync_entriesCame.RV at h
  split at h
  · exact ⟨rfl, h⟩
  · exact h.elim
/-- (*e2e/sync.Sync).snapCame -/
def sync_Sync_snapCame.Call (s : Option Addr) (m0_0 m0_1 m0_2 m0_3 m0_4 m0_5 m0_6 : Int) (m0_7 : Bool) (m0_8_b : Option Addr) (m0_8_l m0_8_c : Nat) (m0_9 : ByteArray) (w : World) (R : World → Prop) : Prop :=
  Calls Tryz.prog 118 #[.pointer s, .agg #[.int .i64 m0_0, .int .i64 m0_1, .int .i64 m0_2, .int .i64 m0_3, .int .i64 m0_4, .int .i64 m0_5, .int .i64 m0_6, .bool m0_7, .slice m0_8_b m0_8_l m0_8_c, .string m0_9]] w fun e w' => e = .returned (.tuple #[]) ∧ R w'
theorem sync_Sync_snapCame.Call.mono {s m0_0 m0_1 m0_2 m0_3 m0_4 m0_5 m0_6 m0_7 m0_8_b m0_8_l m0_8_c m0_9} {w : World} {R R' : World → Prop} (h : sync_Sync_snapCame.Call s m0_0 m0_1 m0_2 m0_3 m0_4 m0_5 m0_6 m0_7 m0_8_b m0_8_l m0_8_c m0_9 w R) (hr : ∀ w', R w' → R'  w') : sync_Sync_snapCame.Call s m0_0 m0_1 m0_2 m0_3 m0_4 m0_5 m0_6 m0_7 m0_8_b m0_8_l m0_8_c m0_9 w R' :=
  Calls.mono h fun e w' he => by
    obtain ⟨h1, h2⟩ := he
    exact ⟨h1, hr  w' h2⟩
def sync_Sync_snapCame.RV (R : World → Prop) (v : Value) (w : World) : Prop := match v with
  | .tuple ⟨[]⟩ => R w
  | _ => False
theorem sync_Sync_snapCame.RV_elim {R : World → Prop} {v : Value} {w : World} (h : sync_Sync_snapCame.RV R v w) : Ending.returned v = .returned (.tuple #[]) ∧ R w := by
  unfold sync_Sync_snapCame.RV at h
  split at h
  · exact ⟨rfl, h⟩
  · exact h.elim
/-- (*e2e/sync.Sync).ackCame -/
def sync_Sync_ackCame.Call (s : Option Addr) (m0_0 m0_1 m0_2 m0_3 m0_4 m0_5 m0_6 : Int) (m0_7 : Bool) (m0_8_b : Option Addr) (m0_8_l m0_8_c : Nat) (m0_9 : ByteArray) (w : World) (R : World → Prop) : Prop :=
  Calls Tryz.prog 119 #[.pointer s, .agg #[.int .i64 m0_0, .int .i64 m0_1, .int .i64 m0_2, .int .i64 m0_3, .int .i64 m0_4, .int .i64 m0_5, .int .i64 m0_6, .bool m0_7, .slice m0_8_b m0_8_l m0_8_c, .string m0_9]] w fun e w' => e = .returned (.tuple #[]) ∧ R w'
theorem sync_Sync_ackCame.Call.mono {s m0_0 m0_1 m0_2 m0_3 m0_4 m0_5 m0_6 m0_7 m0_8_b m0_8_l m0_8_c m0_9} {w : World} {R R' : World → Prop} (h : sync_Sync_ackCame.Call s m0_0 m0_1 m0_2 m0_3 m0_4 m0_5 m0_6 m0_7 m0_8_b m0_8_l m0_8_c m0_9 w R) (hr : ∀ w', R w' → R'  w') : sync_Sync_ackCame.Call s m0_0 m0_1 m0_2 m0_3 m0_4 m0_5 m0_6 m0_7 m0_8_b m0_8_l m0_8_c m0_9 w R' :=
  Calls.mono h fun e w' he => by
    obtain ⟨h1, h2⟩ := he
    exact ⟨h1, hr  w' h2⟩
def sync_Sync_ackCame.RV (R : World → Prop) (v : Value) (w : World) : Prop := match v with
  | .tuple ⟨[]⟩ => R w
  | _ => False
theorem sync_Sync_ackCame.RV_elim {R : World → Prop} {v : Value} {w : World} (h : sync_Sync_ackCame.RV R v w) : Ending.returned v = .returned (.tuple #[]) ∧ R w := by
  unfold sync_Sync_ackCame.RV at h
  split at h
  · exact ⟨rfl, h⟩
  · exact h.elim
/-- (*e2e/electm.Elect).AskedVote -/
def electm_Elect_AskedVote.Call (e_1 : Option Addr) (from0 term : Int) (upToDate : Bool) (w : World) (R : Bool → World → Prop) : Prop :=
  Calls Tryz.prog 120 #[.pointer e_1, .int .i64 from0, .int .i64 term, .bool upToDate] w fun e w' => ∃ r, e = .returned (.bool r) ∧ R r w'
theorem electm_Elect_AskedVote.Call.mono {e_1 from0 term upToDate} {w : World} {R R' : Bool → World → Prop} (h : electm_Elect_AskedVote.Call e_1 from0 term upToDate w R) (hr : ∀ r w', R r w' → R' r w') : electm_Elect_AskedVote.Call e_1 from0 term upToDate w R' :=
  Calls.mono h fun e w' he => by
    obtain ⟨r, h1, h2⟩ := he
    exact ⟨r, h1, hr r w' h2⟩
def electm_Elect_AskedVote.RV (R : Bool → World → Prop) (v : Value) (w : World) : Prop := match v with
  | .bool r => R r w
  | _ => False
theorem electm_Elect_AskedVote.RV_elim {R : Bool → World → Prop} {v : Value} {w : World} (h : electm_Elect_AskedVote.RV R v w) : ∃ r, Ending.returned v = .returned (.bool r) ∧ R r w := by
  unfold electm_Elect_AskedVote.RV at h
  split at h
  · exact ⟨_, rfl, h⟩
  · exact h.elim
/-- (*e2e/electm.Elect).GotVote -/
def electm_Elect_GotVote.Call (e_1 : Option Addr) (from0 term : Int) (granted : Bool) (w : World) (R : Bool → World → Prop) : Prop :=
  Calls Tryz.prog 121 #[.pointer e_1, .int .i64 from0, .int .i64 term, .bool granted] w fun e w' => ∃ r, e = .returned (.bool r) ∧ R r w'
theorem electm_Elect_GotVote.Call.mono {e_1 from0 term granted} {w : World} {R R' : Bool → World → Prop} (h : electm_Elect_GotVote.Call e_1 from0 term granted w R) (hr : ∀ r w', R r w' → R' r w') : electm_Elect_GotVote.Call e_1 from0 term granted w R' :=
  Calls.mono h fun e w' he => by
    obtain ⟨r, h1, h2⟩ := he
    exact ⟨r, h1, hr r w' h2⟩
def electm_Elect_GotVote.RV (R : Bool → World → Prop) (v : Value) (w : World) : Prop := match v with
  | .bool r => R r w
  | _ => False
theorem electm_Elect_GotVote.RV_elim {R : Bool → World → Prop} {v : Value} {w : World} (h : electm_Elect_GotVote.RV R v w) : ∃ r, Ending.returned v = .returned (.bool r) ∧ R r w := by
  unfold electm_Elect_GotVote.RV at h
  split at h
  · exact ⟨_, rfl, h⟩
  · exact h.elim
/-- (*e2e/rlogm.Log).Append -/
def rlogm_Log_Append.Call (l : Option Addr) (e_0 : Int) (e_1 : ByteArray) (w : World) (R : Int → World → Prop) : Prop :=
  Calls Tryz.prog 122 #[.pointer l, .agg #[.int .i64 e_0, .string e_1]] w fun e w' => ∃ r, e = .returned (.int .i64 r) ∧ R r w'
theorem rlogm_Log_Append.Call.mono {l e_0 e_1} {w : World} {R R' : Int → World → Prop} (h : rlogm_Log_Append.Call l e_0 e_1 w R) (hr : ∀ r w', R r w' → R' r w') : rlogm_Log_Append.Call l e_0 e_1 w R' :=
  Calls.mono h fun e w' he => by
    obtain ⟨r, h1, h2⟩ := he
    exact ⟨r, h1, hr r w' h2⟩
def rlogm_Log_Append.RV (R : Int → World → Prop) (v : Value) (w : World) : Prop := match v with
  | .int .i64 r => R r w
  | _ => False
theorem rlogm_Log_Append.RV_elim {R : Int → World → Prop} {v : Value} {w : World} (h : rlogm_Log_Append.RV R v w) : ∃ r, Ending.returned v = .returned (.int .i64 r) ∧ R r w := by
  unfold rlogm_Log_Append.RV at h
  split at h
  · exact ⟨_, rfl, h⟩
  · exact h.elim
/-- (*e2e/electm.Elect).Heard -/
def electm_Elect_Heard.Call (e_1 : Option Addr) (from0 term : Int) (w : World) (R : Bool → World → Prop) : Prop :=
  Calls Tryz.prog 123 #[.pointer e_1, .int .i64 from0, .int .i64 term] w fun e w' => ∃ r, e = .returned (.bool r) ∧ R r w'
theorem electm_Elect_Heard.Call.mono {e_1 from0 term} {w : World} {R R' : Bool → World → Prop} (h : electm_Elect_Heard.Call e_1 from0 term w R) (hr : ∀ r w', R r w' → R' r w') : electm_Elect_Heard.Call e_1 from0 term w R' :=
  Calls.mono h fun e w' he => by
    obtain ⟨r, h1, h2⟩ := he
    exact ⟨r, h1, hr r w' h2⟩
def electm_Elect_Heard.RV (R : Bool → World → Prop) (v : Value) (w : World) : Prop := match v with
  | .bool r => R r w
  | _ => False
theorem electm_Elect_Heard.RV_elim {R : Bool → World → Prop} {v : Value} {w : World} (h : electm_Elect_Heard.RV R v w) : ∃ r, Ending.returned v = .returned (.bool r) ∧ R r w := by
  unfold electm_Elect_Heard.RV at h
  split at h
  · exact ⟨_, rfl, h⟩
  · exact h.elim
/-- (*e2e/syncm.Sync).accept -/
def syncm_Sync_accept.Call (s : Option Addr) (m0_0 m0_1 m0_2 m0_3 m0_4 m0_5 m0_6 : Int) (m0_7 : Bool) (m0_8_b : Option Addr) (m0_8_l m0_8_c : Nat) (m0_9 : ByteArray) (w : World) (R : Bool → Int → World → Prop) : Prop :=
  Calls Tryz.prog 124 #[.pointer s, .agg #[.int .i64 m0_0, .int .i64 m0_1, .int .i64 m0_2, .int .i64 m0_3, .int .i64 m0_4, .int .i64 m0_5, .int .i64 m0_6, .bool m0_7, .slice m0_8_b m0_8_l m0_8_c, .string m0_9]] w fun e w' => ∃ r0 r1, e = .returned (.tuple #[.bool r0, .int .i64 r1]) ∧ R r0 r1 w'
theorem syncm_Sync_accept.Call.mono {s m0_0 m0_1 m0_2 m0_3 m0_4 m0_5 m0_6 m0_7 m0_8_b m0_8_l m0_8_c m0_9} {w : World} {R R' : Bool → Int → World → Prop} (h : syncm_Sync_accept.Call s m0_0 m0_1 m0_2 m0_3 m0_4 m0_5 m0_6 m0_7 m0_8_b m0_8_l m0_8_c m0_9 w R) (hr : ∀ r0 r1 w', R r0 r1 w' → R' r0 r1 w') : syncm_Sync_accept.Call s m0_0 m0_1 m0_2 m0_3 m0_4 m0_5 m0_6 m0_7 m0_8_b m0_8_l m0_8_c m0_9 w R' :=
  Calls.mono h fun e w' he => by
    obtain ⟨r0, r1, h1, h2⟩ := he
    exact ⟨r0, r1, h1, hr r0 r1 w' h2⟩
def syncm_Sync_accept.RV (R : Bool → Int → World → Prop) (v : Value) (w : World) : Prop := match v with
  | .tuple ⟨[.bool r0, .int .i64 r1]⟩ => R r0 r1 w
  | _ => False
theorem syncm_Sync_accept.RV_elim {R : Bool → Int → World → Prop} {v : Value} {w : World} (h : syncm_Sync_accept.RV R v w) : ∃ r0 r1, Ending.returned v = .returned (.tuple #[.bool r0, .int .i64 r1]) ∧ R r0 r1 w := by
  unfold syncm_Sync_accept.RV at h
  split at h
  · exact ⟨_, _, rfl, h⟩
  · exact h.elim
/-- (*e2e/rlogm.Log).Install -/
def rlogm_Log_Install.Call (l : Option Addr) (idx term : Int) (snap : ByteArray) (w : World) (R : Int → World → Prop) : Prop :=
  Calls Tryz.prog 125 #[.pointer l, .int .i64 idx, .int .i64 term, .string snap] w fun e w' => ∃ r, e = .returned (.int .i64 r) ∧ R r w'
theorem rlogm_Log_Install.Call.mono {l idx term snap} {w : World} {R R' : Int → World → Prop} (h : rlogm_Log_Install.Call l idx term snap w R) (hr : ∀ r w', R r w' → R' r w') : rlogm_Log_Install.Call l idx term snap w R' :=
  Calls.mono h fun e w' he => by
    obtain ⟨r, h1, h2⟩ := he
    exact ⟨r, h1, hr r w' h2⟩
def rlogm_Log_Install.RV (R : Int → World → Prop) (v : Value) (w : World) : Prop := match v with
  | .int .i64 r => R r w
  | _ => False
theorem rlogm_Log_Install.RV_elim {R : Int → World → Prop} {v : Value} {w : World} (h : rlogm_Log_Install.RV R v w) : ∃ r, Ending.returned v = .returned (.int .i64 r) ∧ R r w := by
  unfold rlogm_Log_Install.RV at h
  split at h
  · exact ⟨_, rfl, h⟩
  · exact h.elim
/-- (*e2e/electm.Elect).See -/
def electm_Elect_See.Call (e_1 : Option Addr) (term : Int) (w : World) (R : Bool → World → Prop) : Prop :=
  Calls Tryz.prog 126 #[.pointer e_1, .int .i64 term] w fun e w' => ∃ r, e = .returned (.bool r) ∧ R r w'
theorem electm_Elect_See.Call.mono {e_1 term} {w : World} {R R' : Bool → World → Prop} (h : electm_Elect_See.Call e_1 term w R) (hr : ∀ r w', R r w' → R' r w') : electm_Elect_See.Call e_1 term w R' :=
  Calls.mono h fun e w' he => by
    obtain ⟨r, h1, h2⟩ := he
    exact ⟨r, h1, hr r w' h2⟩
def electm_Elect_See.RV (R : Bool → World → Prop) (v : Value) (w : World) : Prop := match v with
  | .bool r => R r w
  | _ => False
theorem electm_Elect_See.RV_elim {R : Bool → World → Prop} {v : Value} {w : World} (h : electm_Elect_See.RV R v w) : ∃ r, Ending.returned v = .returned (.bool r) ∧ R r w := by
  unfold electm_Elect_See.RV at h
  split at h
  · exact ⟨_, rfl, h⟩
  · exact h.elim
/-- (*e2e/syncm.Sync).advance -/
def syncm_Sync_advance.Call (s : Option Addr) (w : World) (R : World → Prop) : Prop :=
  Calls Tryz.prog 127 #[.pointer s] w fun e w' => e = .returned (.tuple #[]) ∧ R w'
theorem syncm_Sync_advance.Call.mono {s} {w : World} {R R' : World → Prop} (h : syncm_Sync_advance.Call s w R) (hr : ∀ w', R w' → R'  w') : syncm_Sync_advance.Call s w R' :=
  Calls.mono h fun e w' he => by
    obtain ⟨h1, h2⟩ := he
    exact ⟨h1, hr  w' h2⟩
def syncm_Sync_advance.RV (R : World → Prop) (v : Value) (w : World) : Prop := match v with
  | .tuple ⟨[]⟩ => R w
  | _ => False
theorem syncm_Sync_advance.RV_elim {R : World → Prop} {v : Value} {w : World} (h : syncm_Sync_advance.RV R v w) : Ending.returned v = .returned (.tuple #[]) ∧ R w := by
  unfold syncm_Sync_advance.RV at h
  split at h
  · exact ⟨rfl, h⟩
  · exact h.elim
/-- (*e2e/syncm.Sync).send -/
def syncm_Sync_send.Call (s : Option Addr) (p : Int) (w : World) (R : Int → Int → Int → Int → Int → Int → Int → Bool → Option Addr → Nat → Nat → ByteArray → World → Prop) : Prop :=
  Calls Tryz.prog 128 #[.pointer s, .int .i64 p] w fun e w' => ∃ r_0 r_1 r_2 r_3 r_4 r_5 r_6 r_7 r_8_b r_8_l r_8_c r_9, e = .returned (.agg #[.int .i64 r_0, .int .i64 r_1, .int .i64 r_2, .int .i64 r_3, .int .i64 r_4, .int .i64 r_5, .int .i64 r_6, .bool r_7, .slice r_8_b r_8_l r_8_c, .string r_9]) ∧ R r_0 r_1 r_2 r_3 r_4 r_5 r_6 r_7 r_8_b r_8_l r_8_c r_9 w'
theorem syncm_Sync_send.Call.mono {s p} {w : World} {R R' : Int → Int → Int → Int → Int → Int → Int → Bool → Option Addr → Nat → Nat → ByteArray → World → Prop} (h : syncm_Sync_send.Call s p w R) (hr : ∀ r_0 r_1 r_2 r_3 r_4 r_5 r_6 r_7 r_8_b r_8_l r_8_c r_9 w', R r_0 r_1 r_2 r_3 r_4 r_5 r_6 r_7 r_8_b r_8_l r_8_c r_9 w' → R' r_0 r_1 r_2 r_3 r_4 r_5 r_6 r_7 r_8_b r_8_l r_8_c r_9 w') : syncm_Sync_send.Call s p w R' :=
  Calls.mono h fun e w' he => by
    obtain ⟨r_0, r_1, r_2, r_3, r_4, r_5, r_6, r_7, r_8_b, r_8_l, r_8_c, r_9, h1, h2⟩ := he
    exact ⟨r_0, r_1, r_2, r_3, r_4, r_5, r_6, r_7, r_8_b, r_8_l, r_8_c, r_9, h1, hr r_0 r_1 r_2 r_3 r_4 r_5 r_6 r_7 r_8_b r_8_l r_8_c r_9 w' h2⟩
def syncm_Sync_send.RV (R : Int → Int → Int → Int → Int → Int → Int → Bool → Option Addr → Nat → Nat → ByteArray → World → Prop) (v : Value) (w : World) : Prop := match v with
  | .agg ⟨[.int .i64 r_0, .int .i64 r_1, .int .i64 r_2, .int .i64 r_3, .int .i64 r_4, .int .i64 r_5, .int .i64 r_6, .bool r_7, .slice r_8_b r_8_l r_8_c, .string r_9]⟩ => R r_0 r_1 r_2 r_3 r_4 r_5 r_6 r_7 r_8_b r_8_l r_8_c r_9 w
  | _ => False
theorem syncm_Sync_send.RV_elim {R : Int → Int → Int → Int → Int → Int → Int → Bool → Option Addr → Nat → Nat → ByteArray → World → Prop} {v : Value} {w : World} (h : syncm_Sync_send.RV R v w) : ∃ r_0 r_1 r_2 r_3 r_4 r_5 r_6 r_7 r_8_b r_8_l r_8_c r_9, Ending.returned v = .returned (.agg #[.int .i64 r_0, .int .i64 r_1, .int .i64 r_2, .int .i64 r_3, .int .i64 r_4, .int .i64 r_5, .int .i64 r_6, .bool r_7, .slice r_8_b r_8_l r_8_c, .string r_9]) ∧ R r_0 r_1 r_2 r_3 r_4 r_5 r_6 r_7 r_8_b r_8_l r_8_c r_9 w := by
  unfold syncm_Sync_send.RV at h
  split at h
  · exact ⟨_, _, _, _, _, _, _, _, _, _, _, _, rfl, h⟩
  · exact h.elim
/-- e2e/synclaw.SameEnts -/
def synclaw_SameEnts.Call (a_b : Option Addr) (a_l a_c : Nat) (b_b : Option Addr) (b_l b_c : Nat) (w : World) (R : Bool → World → Prop) : Prop :=
  Calls Tryz.prog 129 #[.slice a_b a_l a_c, .slice b_b b_l b_c] w fun e w' => ∃ r, e = .returned (.bool r) ∧ R r w'
theorem synclaw_SameEnts.Call.mono {a_b a_l a_c b_b b_l b_c} {w : World} {R R' : Bool → World → Prop} (h : synclaw_SameEnts.Call a_b a_l a_c b_b b_l b_c w R) (hr : ∀ r w', R r w' → R' r w') : synclaw_SameEnts.Call a_b a_l a_c b_b b_l b_c w R' :=
  Calls.mono h fun e w' he => by
    obtain ⟨r, h1, h2⟩ := he
    exact ⟨r, h1, hr r w' h2⟩
def synclaw_SameEnts.RV (R : Bool → World → Prop) (v : Value) (w : World) : Prop := match v with
  | .bool r => R r w
  | _ => False
theorem synclaw_SameEnts.RV_elim {R : Bool → World → Prop} {v : Value} {w : World} (h : synclaw_SameEnts.RV R v w) : ∃ r, Ending.returned v = .returned (.bool r) ∧ R r w := by
  unfold synclaw_SameEnts.RV at h
  split at h
  · exact ⟨_, rfl, h⟩
  · exact h.elim
/-- (*e2e/sync.Sync).Propose -/
def sync_Sync_Propose.Call (s : Option Addr) (data : ByteArray) (w : World) (R : Int → Int → World → Prop) : Prop :=
  Calls Tryz.prog 130 #[.pointer s, .string data] w fun e w' => ∃ r0 r1, e = .returned (.tuple #[.int .i64 r0, .int .i64 r1]) ∧ R r0 r1 w'
theorem sync_Sync_Propose.Call.mono {s data} {w : World} {R R' : Int → Int → World → Prop} (h : sync_Sync_Propose.Call s data w R) (hr : ∀ r0 r1 w', R r0 r1 w' → R' r0 r1 w') : sync_Sync_Propose.Call s data w R' :=
  Calls.mono h fun e w' he => by
    obtain ⟨r0, r1, h1, h2⟩ := he
    exact ⟨r0, r1, h1, hr r0 r1 w' h2⟩
def sync_Sync_Propose.RV (R : Int → Int → World → Prop) (v : Value) (w : World) : Prop := match v with
  | .tuple ⟨[.int .i64 r0, .int .i64 r1]⟩ => R r0 r1 w
  | _ => False
theorem sync_Sync_Propose.RV_elim {R : Int → Int → World → Prop} {v : Value} {w : World} (h : sync_Sync_Propose.RV R v w) : ∃ r0 r1, Ending.returned v = .returned (.tuple #[.int .i64 r0, .int .i64 r1]) ∧ R r0 r1 w := by
  unfold sync_Sync_Propose.RV at h
  split at h
  · exact ⟨_, _, rfl, h⟩
  · exact h.elim
/-- (*e2e/syncm.Sync).Propose -/
def syncm_Sync_Propose.Call (s : Option Addr) (data : ByteArray) (w : World) (R : Int → Int → World → Prop) : Prop :=
  Calls Tryz.prog 131 #[.pointer s, .string data] w fun e w' => ∃ r0 r1, e = .returned (.tuple #[.int .i64 r0, .int .i64 r1]) ∧ R r0 r1 w'
theorem syncm_Sync_Propose.Call.mono {s data} {w : World} {R R' : Int → Int → World → Prop} (h : syncm_Sync_Propose.Call s data w R) (hr : ∀ r0 r1 w', R r0 r1 w' → R' r0 r1 w') : syncm_Sync_Propose.Call s data w R' :=
  Calls.mono h fun e w' he => by
    obtain ⟨r0, r1, h1, h2⟩ := he
    exact ⟨r0, r1, h1, hr r0 r1 w' h2⟩
def syncm_Sync_Propose.RV (R : Int → Int → World → Prop) (v : Value) (w : World) : Prop := match v with
  | .tuple ⟨[.int .i64 r0, .int .i64 r1]⟩ => R r0 r1 w
  | _ => False
theorem syncm_Sync_Propose.RV_elim {R : Int → Int → World → Prop} {v : Value} {w : World} (h : syncm_Sync_Propose.RV R v w) : ∃ r0 r1, Ending.returned v = .returned (.tuple #[.int .i64 r0, .int .i64 r1]) ∧ R r0 r1 w := by
  unfold syncm_Sync_Propose.RV at h
  split at h
  · exact ⟨_, _, rfl, h⟩
  · exact h.elim
/-- (*e2e/sync.Sync).Compact -/
def sync_Sync_Compact.Call (s : Option Addr) (upTo : Int) (snap : ByteArray) (w : World) (R : Int → World → Prop) : Prop :=
  Calls Tryz.prog 132 #[.pointer s, .int .i64 upTo, .string snap] w fun e w' => ∃ r, e = .returned (.int .i64 r) ∧ R r w'
theorem sync_Sync_Compact.Call.mono {s upTo snap} {w : World} {R R' : Int → World → Prop} (h : sync_Sync_Compact.Call s upTo snap w R) (hr : ∀ r w', R r w' → R' r w') : sync_Sync_Compact.Call s upTo snap w R' :=
  Calls.mono h fun e w' he => by
    obtain ⟨r, h1, h2⟩ := he
    exact ⟨r, h1, hr r w' h2⟩
def sync_Sync_Compact.RV (R : Int → World → Prop) (v : Value) (w : World) : Prop := match v with
  | .int .i64 r => R r w
  | _ => False
theorem sync_Sync_Compact.RV_elim {R : Int → World → Prop} {v : Value} {w : World} (h : sync_Sync_Compact.RV R v w) : ∃ r, Ending.returned v = .returned (.int .i64 r) ∧ R r w := by
  unfold sync_Sync_Compact.RV at h
  split at h
  · exact ⟨_, rfl, h⟩
  · exact h.elim
/-- (*e2e/syncm.Sync).Compact -/
def syncm_Sync_Compact.Call (s : Option Addr) (upTo : Int) (snap : ByteArray) (w : World) (R : Int → World → Prop) : Prop :=
  Calls Tryz.prog 133 #[.pointer s, .int .i64 upTo, .string snap] w fun e w' => ∃ r, e = .returned (.int .i64 r) ∧ R r w'
theorem syncm_Sync_Compact.Call.mono {s upTo snap} {w : World} {R R' : Int → World → Prop} (h : syncm_Sync_Compact.Call s upTo snap w R) (hr : ∀ r w', R r w' → R' r w') : syncm_Sync_Compact.Call s upTo snap w R' :=
  Calls.mono h fun e w' he => by
    obtain ⟨r, h1, h2⟩ := he
    exact ⟨r, h1, hr r w' h2⟩
def syncm_Sync_Compact.RV (R : Int → World → Prop) (v : Value) (w : World) : Prop := match v with
  | .int .i64 r => R r w
  | _ => False
theorem syncm_Sync_Compact.RV_elim {R : Int → World → Prop} {v : Value} {w : World} (h : syncm_Sync_Compact.RV R v w) : ∃ r, Ending.returned v = .returned (.int .i64 r) ∧ R r w := by
  unfold syncm_Sync_Compact.RV at h
  split at h
  · exact ⟨_, rfl, h⟩
  · exact h.elim
/-- (*e2e/diskm.Disk).Read -/
def diskm_Disk_Read.Call (d : Option Addr) (b : Int) (w : World) (R : ByteArray → Int → World → Prop) : Prop :=
  Calls Tryz.prog 134 #[.pointer d, .int .i64 b] w fun e w' => ∃ r0 r1, e = .returned (.tuple #[.string r0, .int .i64 r1]) ∧ R r0 r1 w'
theorem diskm_Disk_Read.Call.mono {d b} {w : World} {R R' : ByteArray → Int → World → Prop} (h : diskm_Disk_Read.Call d b w R) (hr : ∀ r0 r1 w', R r0 r1 w' → R' r0 r1 w') : diskm_Disk_Read.Call d b w R' :=
  Calls.mono h fun e w' he => by
    obtain ⟨r0, r1, h1, h2⟩ := he
    exact ⟨r0, r1, h1, hr r0 r1 w' h2⟩
def diskm_Disk_Read.RV (R : ByteArray → Int → World → Prop) (v : Value) (w : World) : Prop := match v with
  | .tuple ⟨[.string r0, .int .i64 r1]⟩ => R r0 r1 w
  | _ => False
theorem diskm_Disk_Read.RV_elim {R : ByteArray → Int → World → Prop} {v : Value} {w : World} (h : diskm_Disk_Read.RV R v w) : ∃ r0 r1, Ending.returned v = .returned (.tuple #[.string r0, .int .i64 r1]) ∧ R r0 r1 w := by
  unfold diskm_Disk_Read.RV at h
  split at h
  · exact ⟨_, _, rfl, h⟩
  · exact h.elim
/-- e2e/store.whole -/
def store_whole.Call (b : ByteArray) (w : World) (R : Bool → World → Prop) : Prop :=
  Calls Tryz.prog 135 #[.string b] w fun e w' => ∃ r, e = .returned (.bool r) ∧ R r w'
theorem store_whole.Call.mono {b} {w : World} {R R' : Bool → World → Prop} (h : store_whole.Call b w R) (hr : ∀ r w', R r w' → R' r w') : store_whole.Call b w R' :=
  Calls.mono h fun e w' he => by
    obtain ⟨r, h1, h2⟩ := he
    exact ⟨r, h1, hr r w' h2⟩
def store_whole.RV (R : Bool → World → Prop) (v : Value) (w : World) : Prop := match v with
  | .bool r => R r w
  | _ => False
theorem store_whole.RV_elim {R : Bool → World → Prop} {v : Value} {w : World} (h : store_whole.RV R v w) : ∃ r, Ending.returned v = .returned (.bool r) ∧ R r w := by
  unfold store_whole.RV at h
  split at h
  · exact ⟨_, rfl, h⟩
  · exact h.elim
/-- e2e/store.get8 -/
def store_get8.Call (b : ByteArray) (at0 : Int) (w : World) (R : Int → World → Prop) : Prop :=
  Calls Tryz.prog 136 #[.string b, .int .i64 at0] w fun e w' => ∃ r, e = .returned (.int .i64 r) ∧ R r w'
theorem store_get8.Call.mono {b at0} {w : World} {R R' : Int → World → Prop} (h : store_get8.Call b at0 w R) (hr : ∀ r w', R r w' → R' r w') : store_get8.Call b at0 w R' :=
  Calls.mono h fun e w' he => by
    obtain ⟨r, h1, h2⟩ := he
    exact ⟨r, h1, hr r w' h2⟩
def store_get8.RV (R : Int → World → Prop) (v : Value) (w : World) : Prop := match v with
  | .int .i64 r => R r w
  | _ => False
theorem store_get8.RV_elim {R : Int → World → Prop} {v : Value} {w : World} (h : store_get8.RV R v w) : ∃ r, Ending.returned v = .returned (.int .i64 r) ∧ R r w := by
  unfold store_get8.RV at h
  split at h
  · exact ⟨_, rfl, h⟩
  · exact h.elim
/-- e2e/rlog.slotOf -/
def rlog_slotOf.Call (i : Int) (w : World) (R : Int → World → Prop) : Prop :=
  Calls Tryz.prog 137 #[.int .i64 i] w fun e w' => ∃ r, e = .returned (.int .i64 r) ∧ R r w'
theorem rlog_slotOf.Call.mono {i} {w : World} {R R' : Int → World → Prop} (h : rlog_slotOf.Call i w R) (hr : ∀ r w', R r w' → R' r w') : rlog_slotOf.Call i w R' :=
  Calls.mono h fun e w' he => by
    obtain ⟨r, h1, h2⟩ := he
    exact ⟨r, h1, hr r w' h2⟩
def rlog_slotOf.RV (R : Int → World → Prop) (v : Value) (w : World) : Prop := match v with
  | .int .i64 r => R r w
  | _ => False
theorem rlog_slotOf.RV_elim {R : Int → World → Prop} {v : Value} {w : World} (h : rlog_slotOf.RV R v w) : ∃ r, Ending.returned v = .returned (.int .i64 r) ∧ R r w := by
  unfold rlog_slotOf.RV at h
  split at h
  · exact ⟨_, rfl, h⟩
  · exact h.elim
/-- (*e2e/store.Store).Rec -/
def store_Store_Rec.Call (t : Option Addr) (slot : Int) (w : World) (R : Int → Int → ByteArray → Int → World → Prop) : Prop :=
  Calls Tryz.prog 138 #[.pointer t, .int .i64 slot] w fun e w' => ∃ r0_0 r0_1 r0_2 r1, e = .returned (.tuple #[.agg #[.int .i64 r0_0, .int .i64 r0_1, .string r0_2], .int .i64 r1]) ∧ R r0_0 r0_1 r0_2 r1 w'
theorem store_Store_Rec.Call.mono {t slot} {w : World} {R R' : Int → Int → ByteArray → Int → World → Prop} (h : store_Store_Rec.Call t slot w R) (hr : ∀ r0_0 r0_1 r0_2 r1 w', R r0_0 r0_1 r0_2 r1 w' → R' r0_0 r0_1 r0_2 r1 w') : store_Store_Rec.Call t slot w R' :=
  Calls.mono h fun e w' he => by
    obtain ⟨r0_0, r0_1, r0_2, r1, h1, h2⟩ := he
    exact ⟨r0_0, r0_1, r0_2, r1, h1, hr r0_0 r0_1 r0_2 r1 w' h2⟩
def store_Store_Rec.RV (R : Int → Int → ByteArray → Int → World → Prop) (v : Value) (w : World) : Prop := match v with
  | .tuple ⟨[.agg ⟨[.int .i64 r0_0, .int .i64 r0_1, .string r0_2]⟩, .int .i64 r1]⟩ => R r0_0 r0_1 r0_2 r1 w
  | _ => False
theorem store_Store_Rec.RV_elim {R : Int → Int → ByteArray → Int → World → Prop} {v : Value} {w : World} (h : store_Store_Rec.RV R v w) : ∃ r0_0 r0_1 r0_2 r1, Ending.returned v = .returned (.tuple #[.agg #[.int .i64 r0_0, .int .i64 r0_1, .string r0_2], .int .i64 r1]) ∧ R r0_0 r0_1 r0_2 r1 w := by
  unfold store_Store_Rec.RV at h
  split at h
  · exact ⟨_, _, _, _, rfl, h⟩
  · exact h.elim
/-- (*e2e/rlog.Log).indexIn -/
def rlog_Log_indexIn.Call (l : Option Addr) (s : Int) (w : World) (R : Int → World → Prop) : Prop :=
  Calls Tryz.prog 139 #[.pointer l, .int .i64 s] w fun e w' => ∃ r, e = .returned (.int .i64 r) ∧ R r w'
theorem rlog_Log_indexIn.Call.mono {l s} {w : World} {R R' : Int → World → Prop} (h : rlog_Log_indexIn.Call l s w R) (hr : ∀ r w', R r w' → R' r w') : rlog_Log_indexIn.Call l s w R' :=
  Calls.mono h fun e w' he => by
    obtain ⟨r, h1, h2⟩ := he
    exact ⟨r, h1, hr r w' h2⟩
def rlog_Log_indexIn.RV (R : Int → World → Prop) (v : Value) (w : World) : Prop := match v with
  | .int .i64 r => R r w
  | _ => False
theorem rlog_Log_indexIn.RV_elim {R : Int → World → Prop} {v : Value} {w : World} (h : rlog_Log_indexIn.RV R v w) : ∃ r, Ending.returned v = .returned (.int .i64 r) ∧ R r w := by
  unfold rlog_Log_indexIn.RV at h
  split at h
  · exact ⟨_, rfl, h⟩
  · exact h.elim
/-- (*e2e/store.Store).DelRec -/
def store_Store_DelRec.Call (t : Option Addr) (slot : Int) (w : World) (R : Int → World → Prop) : Prop :=
  Calls Tryz.prog 140 #[.pointer t, .int .i64 slot] w fun e w' => ∃ r, e = .returned (.int .i64 r) ∧ R r w'
theorem store_Store_DelRec.Call.mono {t slot} {w : World} {R R' : Int → World → Prop} (h : store_Store_DelRec.Call t slot w R) (hr : ∀ r w', R r w' → R' r w') : store_Store_DelRec.Call t slot w R' :=
  Calls.mono h fun e w' he => by
    obtain ⟨r, h1, h2⟩ := he
    exact ⟨r, h1, hr r w' h2⟩
def store_Store_DelRec.RV (R : Int → World → Prop) (v : Value) (w : World) : Prop := match v with
  | .int .i64 r => R r w
  | _ => False
theorem store_Store_DelRec.RV_elim {R : Int → World → Prop} {v : Value} {w : World} (h : store_Store_DelRec.RV R v w) : ∃ r, Ending.returned v = .returned (.int .i64 r) ∧ R r w := by
  unfold store_Store_DelRec.RV at h
  split at h
  · exact ⟨_, rfl, h⟩
  · exact h.elim
/-- (*e2e/elect.Elect).Leader -/
def elect_Elect_Leader.Call (e_1 : Option Addr) (w : World) (R : Int → World → Prop) : Prop :=
  Calls Tryz.prog 141 #[.pointer e_1] w fun e w' => ∃ r, e = .returned (.int .i64 r) ∧ R r w'
theorem elect_Elect_Leader.Call.mono {e_1} {w : World} {R R' : Int → World → Prop} (h : elect_Elect_Leader.Call e_1 w R) (hr : ∀ r w', R r w' → R' r w') : elect_Elect_Leader.Call e_1 w R' :=
  Calls.mono h fun e w' he => by
    obtain ⟨r, h1, h2⟩ := he
    exact ⟨r, h1, hr r w' h2⟩
def elect_Elect_Leader.RV (R : Int → World → Prop) (v : Value) (w : World) : Prop := match v with
  | .int .i64 r => R r w
  | _ => False
theorem elect_Elect_Leader.RV_elim {R : Int → World → Prop} {v : Value} {w : World} (h : elect_Elect_Leader.RV R v w) : ∃ r, Ending.returned v = .returned (.int .i64 r) ∧ R r w := by
  unfold elect_Elect_Leader.RV at h
  split at h
  · exact ⟨_, rfl, h⟩
  · exact h.elim
/-- (*e2e/elect.Elect).Clock -/
def elect_Elect_Clock.Call (e_1 : Option Addr) (w : World) (R : Int → World → Prop) : Prop :=
  Calls Tryz.prog 142 #[.pointer e_1] w fun e w' => ∃ r, e = .returned (.int .i64 r) ∧ R r w'
theorem elect_Elect_Clock.Call.mono {e_1} {w : World} {R R' : Int → World → Prop} (h : elect_Elect_Clock.Call e_1 w R) (hr : ∀ r w', R r w' → R' r w') : elect_Elect_Clock.Call e_1 w R' :=
  Calls.mono h fun e w' he => by
    obtain ⟨r, h1, h2⟩ := he
    exact ⟨r, h1, hr r w' h2⟩
def elect_Elect_Clock.RV (R : Int → World → Prop) (v : Value) (w : World) : Prop := match v with
  | .int .i64 r => R r w
  | _ => False
theorem elect_Elect_Clock.RV_elim {R : Int → World → Prop} {v : Value} {w : World} (h : elect_Elect_Clock.RV R v w) : ∃ r, Ending.returned v = .returned (.int .i64 r) ∧ R r w := by
  unfold elect_Elect_Clock.RV at h
  split at h
  · exact ⟨_, rfl, h⟩
  · exact h.elim
/-- (*e2e/elect.Elect).Got -/
def elect_Elect_Got.Call (e_1 : Option Addr) (p : Int) (w : World) (R : Bool → World → Prop) : Prop :=
  Calls Tryz.prog 143 #[.pointer e_1, .int .i64 p] w fun e w' => ∃ r, e = .returned (.bool r) ∧ R r w'
theorem elect_Elect_Got.Call.mono {e_1 p} {w : World} {R R' : Bool → World → Prop} (h : elect_Elect_Got.Call e_1 p w R) (hr : ∀ r w', R r w' → R' r w') : elect_Elect_Got.Call e_1 p w R' :=
  Calls.mono h fun e w' he => by
    obtain ⟨r, h1, h2⟩ := he
    exact ⟨r, h1, hr r w' h2⟩
def elect_Elect_Got.RV (R : Bool → World → Prop) (v : Value) (w : World) : Prop := match v with
  | .bool r => R r w
  | _ => False
theorem elect_Elect_Got.RV_elim {R : Bool → World → Prop} {v : Value} {w : World} (h : elect_Elect_Got.RV R v w) : ∃ r, Ending.returned v = .returned (.bool r) ∧ R r w := by
  unfold elect_Elect_Got.RV at h
  split at h
  · exact ⟨_, rfl, h⟩
  · exact h.elim
/-- (*e2e/rlog.Log).BaseTerm -/
def rlog_Log_BaseTerm.Call (l : Option Addr) (w : World) (R : Int → World → Prop) : Prop :=
  Calls Tryz.prog 144 #[.pointer l] w fun e w' => ∃ r, e = .returned (.int .i64 r) ∧ R r w'
theorem rlog_Log_BaseTerm.Call.mono {l} {w : World} {R R' : Int → World → Prop} (h : rlog_Log_BaseTerm.Call l w R) (hr : ∀ r w', R r w' → R' r w') : rlog_Log_BaseTerm.Call l w R' :=
  Calls.mono h fun e w' he => by
    obtain ⟨r, h1, h2⟩ := he
    exact ⟨r, h1, hr r w' h2⟩
def rlog_Log_BaseTerm.RV (R : Int → World → Prop) (v : Value) (w : World) : Prop := match v with
  | .int .i64 r => R r w
  | _ => False
theorem rlog_Log_BaseTerm.RV_elim {R : Int → World → Prop} {v : Value} {w : World} (h : rlog_Log_BaseTerm.RV R v w) : ∃ r, Ending.returned v = .returned (.int .i64 r) ∧ R r w := by
  unfold rlog_Log_BaseTerm.RV at h
  split at h
  · exact ⟨_, rfl, h⟩
  · exact h.elim
/-- (*e2e/rlog.Log).Snap -/
def rlog_Log_Snap.Call (l : Option Addr) (w : World) (R : ByteArray → World → Prop) : Prop :=
  Calls Tryz.prog 145 #[.pointer l] w fun e w' => ∃ r, e = .returned (.string r) ∧ R r w'
theorem rlog_Log_Snap.Call.mono {l} {w : World} {R R' : ByteArray → World → Prop} (h : rlog_Log_Snap.Call l w R) (hr : ∀ r w', R r w' → R' r w') : rlog_Log_Snap.Call l w R' :=
  Calls.mono h fun e w' he => by
    obtain ⟨r, h1, h2⟩ := he
    exact ⟨r, h1, hr r w' h2⟩
def rlog_Log_Snap.RV (R : ByteArray → World → Prop) (v : Value) (w : World) : Prop := match v with
  | .string r => R r w
  | _ => False
theorem rlog_Log_Snap.RV_elim {R : ByteArray → World → Prop} {v : Value} {w : World} (h : rlog_Log_Snap.RV R v w) : ∃ r, Ending.returned v = .returned (.string r) ∧ R r w := by
  unfold rlog_Log_Snap.RV at h
  split at h
  · exact ⟨_, rfl, h⟩
  · exact h.elim
/-- (*e2e/rlogm.Log).At -/
def rlogm_Log_At.Call (l : Option Addr) (i : Int) (w : World) (R : Int → ByteArray → Int → World → Prop) : Prop :=
  Calls Tryz.prog 146 #[.pointer l, .int .i64 i] w fun e w' => ∃ r0_0 r0_1 r1, e = .returned (.tuple #[.agg #[.int .i64 r0_0, .string r0_1], .int .i64 r1]) ∧ R r0_0 r0_1 r1 w'
theorem rlogm_Log_At.Call.mono {l i} {w : World} {R R' : Int → ByteArray → Int → World → Prop} (h : rlogm_Log_At.Call l i w R) (hr : ∀ r0_0 r0_1 r1 w', R r0_0 r0_1 r1 w' → R' r0_0 r0_1 r1 w') : rlogm_Log_At.Call l i w R' :=
  Calls.mono h fun e w' he => by
    obtain ⟨r0_0, r0_1, r1, h1, h2⟩ := he
    exact ⟨r0_0, r0_1, r1, h1, hr r0_0 r0_1 r1 w' h2⟩
def rlogm_Log_At.RV (R : Int → ByteArray → Int → World → Prop) (v : Value) (w : World) : Prop := match v with
  | .tuple ⟨[.agg ⟨[.int .i64 r0_0, .string r0_1]⟩, .int .i64 r1]⟩ => R r0_0 r0_1 r1 w
  | _ => False
theorem rlogm_Log_At.RV_elim {R : Int → ByteArray → Int → World → Prop} {v : Value} {w : World} (h : rlogm_Log_At.RV R v w) : ∃ r0_0 r0_1 r1, Ending.returned v = .returned (.tuple #[.agg #[.int .i64 r0_0, .string r0_1], .int .i64 r1]) ∧ R r0_0 r0_1 r1 w := by
  unfold rlogm_Log_At.RV at h
  split at h
  · exact ⟨_, _, _, rfl, h⟩
  · exact h.elim
/-- e2e/elect.turn -/
def elect_turn.Call (role ev : Int) (w : World) (R : Int → World → Prop) : Prop :=
  Calls Tryz.prog 147 #[.int .i64 role, .int .i64 ev] w fun e w' => ∃ r, e = .returned (.int .i64 r) ∧ R r w'
theorem elect_turn.Call.mono {role ev} {w : World} {R R' : Int → World → Prop} (h : elect_turn.Call role ev w R) (hr : ∀ r w', R r w' → R' r w') : elect_turn.Call role ev w R' :=
  Calls.mono h fun e w' he => by
    obtain ⟨r, h1, h2⟩ := he
    exact ⟨r, h1, hr r w' h2⟩
def elect_turn.RV (R : Int → World → Prop) (v : Value) (w : World) : Prop := match v with
  | .int .i64 r => R r w
  | _ => False
theorem elect_turn.RV_elim {R : Int → World → Prop} {v : Value} {w : World} (h : elect_turn.RV R v w) : ∃ r, Ending.returned v = .returned (.int .i64 r) ∧ R r w := by
  unfold elect_turn.RV at h
  split at h
  · exact ⟨_, rfl, h⟩
  · exact h.elim
/-- e2e/elect.bit -/
def elect_bit.Call (p : Int) (w : World) (R : Int → World → Prop) : Prop :=
  Calls Tryz.prog 148 #[.int .i64 p] w fun e w' => ∃ r, e = .returned (.int .i64 r) ∧ R r w'
theorem elect_bit.Call.mono {p} {w : World} {R R' : Int → World → Prop} (h : elect_bit.Call p w R) (hr : ∀ r w', R r w' → R' r w') : elect_bit.Call p w R' :=
  Calls.mono h fun e w' he => by
    obtain ⟨r, h1, h2⟩ := he
    exact ⟨r, h1, hr r w' h2⟩
def elect_bit.RV (R : Int → World → Prop) (v : Value) (w : World) : Prop := match v with
  | .int .i64 r => R r w
  | _ => False
theorem elect_bit.RV_elim {R : Int → World → Prop} {v : Value} {w : World} (h : elect_bit.RV R v w) : ∃ r, Ending.returned v = .returned (.int .i64 r) ∧ R r w := by
  unfold elect_bit.RV at h
  split at h
  · exact ⟨_, rfl, h⟩
  · exact h.elim
/-- (*e2e/rlog.Log).SetTerm -/
def rlog_Log_SetTerm.Call (l : Option Addr) (term vote : Int) (w : World) (R : Int → World → Prop) : Prop :=
  Calls Tryz.prog 149 #[.pointer l, .int .i64 term, .int .i64 vote] w fun e w' => ∃ r, e = .returned (.int .i64 r) ∧ R r w'
theorem rlog_Log_SetTerm.Call.mono {l term vote} {w : World} {R R' : Int → World → Prop} (h : rlog_Log_SetTerm.Call l term vote w R) (hr : ∀ r w', R r w' → R' r w') : rlog_Log_SetTerm.Call l term vote w R' :=
  Calls.mono h fun e w' he => by
    obtain ⟨r, h1, h2⟩ := he
    exact ⟨r, h1, hr r w' h2⟩
def rlog_Log_SetTerm.RV (R : Int → World → Prop) (v : Value) (w : World) : Prop := match v with
  | .int .i64 r => R r w
  | _ => False
theorem rlog_Log_SetTerm.RV_elim {R : Int → World → Prop} {v : Value} {w : World} (h : rlog_Log_SetTerm.RV R v w) : ∃ r, Ending.returned v = .returned (.int .i64 r) ∧ R r w := by
  unfold rlog_Log_SetTerm.RV at h
  split at h
  · exact ⟨_, rfl, h⟩
  · exact h.elim
/-- (*e2e/sync.Sync).send -/
def sync_Sync_send.Call (s : Option Addr) (p : Int) (w : World) (R : World → Prop) : Prop :=
  Calls Tryz.prog 150 #[.pointer s, .int .i64 p] w fun e w' => e = .returned (.tuple #[]) ∧ R w'
theorem sync_Sync_send.Call.mono {s p} {w : World} {R R' : World → Prop} (h : sync_Sync_send.Call s p w R) (hr : ∀ w', R w' → R'  w') : sync_Sync_send.Call s p w R' :=
  Calls.mono h fun e w' he => by
    obtain ⟨h1, h2⟩ := he
    exact ⟨h1, hr  w' h2⟩
def sync_Sync_send.RV (R : World → Prop) (v : Value) (w : World) : Prop := match v with
  | .tuple ⟨[]⟩ => R w
  | _ => False
theorem sync_Sync_send.RV_elim {R : World → Prop} {v : Value} {w : World} (h : sync_Sync_send.RV R v w) : Ending.returned v = .returned (.tuple #[]) ∧ R w := by
  unfold sync_Sync_send.RV at h
  split at h
  · exact ⟨rfl, h⟩
  · exact h.elim
/-- (*e2e/rlogm.Log).SetTerm -/
def rlogm_Log_SetTerm.Call (l : Option Addr) (term vote : Int) (w : World) (R : Int → World → Prop) : Prop :=
  Calls Tryz.prog 151 #[.pointer l, .int .i64 term, .int .i64 vote] w fun e w' => ∃ r, e = .returned (.int .i64 r) ∧ R r w'
theorem rlogm_Log_SetTerm.Call.mono {l term vote} {w : World} {R R' : Int → World → Prop} (h : rlogm_Log_SetTerm.Call l term vote w R) (hr : ∀ r w', R r w' → R' r w') : rlogm_Log_SetTerm.Call l term vote w R' :=
  Calls.mono h fun e w' he => by
    obtain ⟨r, h1, h2⟩ := he
    exact ⟨r, h1, hr r w' h2⟩
def rlogm_Log_SetTerm.RV (R : Int → World → Prop) (v : Value) (w : World) : Prop := match v with
  | .int .i64 r => R r w
  | _ => False
theorem rlogm_Log_SetTerm.RV_elim {R : Int → World → Prop} {v : Value} {w : World} (h : rlogm_Log_SetTerm.RV R v w) : ∃ r, Ending.returned v = .returned (.int .i64 r) ∧ R r w := by
  unfold rlogm_Log_SetTerm.RV at h
  split at h
  · exact ⟨_, rfl, h⟩
  · exact h.elim
/-- (*e2e/elect.Elect).AskedVote -/
def elect_Elect_AskedVote.Call (e_1 : Option Addr) (from0 term : Int) (upToDate : Bool) (w : World) (R : Bool → World → Prop) : Prop :=
  Calls Tryz.prog 152 #[.pointer e_1, .int .i64 from0, .int .i64 term, .bool upToDate] w fun e w' => ∃ r, e = .returned (.bool r) ∧ R r w'
theorem elect_Elect_AskedVote.Call.mono {e_1 from0 term upToDate} {w : World} {R R' : Bool → World → Prop} (h : elect_Elect_AskedVote.Call e_1 from0 term upToDate w R) (hr : ∀ r w', R r w' → R' r w') : elect_Elect_AskedVote.Call e_1 from0 term upToDate w R' :=
  Calls.mono h fun e w' he => by
    obtain ⟨r, h1, h2⟩ := he
    exact ⟨r, h1, hr r w' h2⟩
def elect_Elect_AskedVote.RV (R : Bool → World → Prop) (v : Value) (w : World) : Prop := match v with
  | .bool r => R r w
  | _ => False
theorem elect_Elect_AskedVote.RV_elim {R : Bool → World → Prop} {v : Value} {w : World} (h : elect_Elect_AskedVote.RV R v w) : ∃ r, Ending.returned v = .returned (.bool r) ∧ R r w := by
  unfold elect_Elect_AskedVote.RV at h
  split at h
  · exact ⟨_, rfl, h⟩
  · exact h.elim
/-- (*e2e/sync.Sync).reply -/
def sync_Sync_reply.Call (s : Option Addr) (k p : Int) (ok : Bool) (index : Int) (w : World) (R : World → Prop) : Prop :=
  Calls Tryz.prog 153 #[.pointer s, .int .i64 k, .int .i64 p, .bool ok, .int .i64 index] w fun e w' => e = .returned (.tuple #[]) ∧ R w'
theorem sync_Sync_reply.Call.mono {s k p ok index} {w : World} {R R' : World → Prop} (h : sync_Sync_reply.Call s k p ok index w R) (hr : ∀ w', R w' → R'  w') : sync_Sync_reply.Call s k p ok index w R' :=
  Calls.mono h fun e w' he => by
    obtain ⟨h1, h2⟩ := he
    exact ⟨h1, hr  w' h2⟩
def sync_Sync_reply.RV (R : World → Prop) (v : Value) (w : World) : Prop := match v with
  | .tuple ⟨[]⟩ => R w
  | _ => False
theorem sync_Sync_reply.RV_elim {R : World → Prop} {v : Value} {w : World} (h : sync_Sync_reply.RV R v w) : Ending.returned v = .returned (.tuple #[]) ∧ R w := by
  unfold sync_Sync_reply.RV at h
  split at h
  · exact ⟨rfl, h⟩
  · exact h.elim
/-- (*e2e/elect.Elect).GotVote -/
def elect_Elect_GotVote.Call (e_1 : Option Addr) (from0 term : Int) (granted : Bool) (w : World) (R : Bool → World → Prop) : Prop :=
  Calls Tryz.prog 154 #[.pointer e_1, .int .i64 from0, .int .i64 term, .bool granted] w fun e w' => ∃ r, e = .returned (.bool r) ∧ R r w'
theorem elect_Elect_GotVote.Call.mono {e_1 from0 term granted} {w : World} {R R' : Bool → World → Prop} (h : elect_Elect_GotVote.Call e_1 from0 term granted w R) (hr : ∀ r w', R r w' → R' r w') : elect_Elect_GotVote.Call e_1 from0 term granted w R' :=
  Calls.mono h fun e w' he => by
    obtain ⟨r, h1, h2⟩ := he
    exact ⟨r, h1, hr r w' h2⟩
def elect_Elect_GotVote.RV (R : Bool → World → Prop) (v : Value) (w : World) : Prop := match v with
  | .bool r => R r w
  | _ => False
theorem elect_Elect_GotVote.RV_elim {R : Bool → World → Prop} {v : Value} {w : World} (h : elect_Elect_GotVote.RV R v w) : ∃ r, Ending.returned v = .returned (.bool r) ∧ R r w := by
  unfold elect_Elect_GotVote.RV at h
  split at h
  · exact ⟨_, rfl, h⟩
  · exact h.elim
/-- (*e2e/sync.Sync).grow -/
def sync_Sync_grow.Call (s : Option Addr) (e_0 : Int) (e_1 : ByteArray) (w : World) (R : Int → World → Prop) : Prop :=
  Calls Tryz.prog 155 #[.pointer s, .agg #[.int .i64 e_0, .string e_1]] w fun e w' => ∃ r, e = .returned (.int .i64 r) ∧ R r w'
theorem sync_Sync_grow.Call.mono {s e_0 e_1} {w : World} {R R' : Int → World → Prop} (h : sync_Sync_grow.Call s e_0 e_1 w R) (hr : ∀ r w', R r w' → R' r w') : sync_Sync_grow.Call s e_0 e_1 w R' :=
  Calls.mono h fun e w' he => by
    obtain ⟨r, h1, h2⟩ := he
    exact ⟨r, h1, hr r w' h2⟩
def sync_Sync_grow.RV (R : Int → World → Prop) (v : Value) (w : World) : Prop := match v with
  | .int .i64 r => R r w
  | _ => False
theorem sync_Sync_grow.RV_elim {R : Int → World → Prop} {v : Value} {w : World} (h : sync_Sync_grow.RV R v w) : ∃ r, Ending.returned v = .returned (.int .i64 r) ∧ R r w := by
  unfold sync_Sync_grow.RV at h
  split at h
  · exact ⟨_, rfl, h⟩
  · exact h.elim
/-- (*e2e/elect.Elect).Heard -/
def elect_Elect_Heard.Call (e_1 : Option Addr) (from0 term : Int) (w : World) (R : Bool → World → Prop) : Prop :=
  Calls Tryz.prog 156 #[.pointer e_1, .int .i64 from0, .int .i64 term] w fun e w' => ∃ r, e = .returned (.bool r) ∧ R r w'
theorem elect_Elect_Heard.Call.mono {e_1 from0 term} {w : World} {R R' : Bool → World → Prop} (h : elect_Elect_Heard.Call e_1 from0 term w R) (hr : ∀ r w', R r w' → R' r w') : elect_Elect_Heard.Call e_1 from0 term w R' :=
  Calls.mono h fun e w' he => by
    obtain ⟨r, h1, h2⟩ := he
    exact ⟨r, h1, hr r w' h2⟩
def elect_Elect_Heard.RV (R : Bool → World → Prop) (v : Value) (w : World) : Prop := match v with
  | .bool r => R r w
  | _ => False
theorem elect_Elect_Heard.RV_elim {R : Bool → World → Prop} {v : Value} {w : World} (h : elect_Elect_Heard.RV R v w) : ∃ r, Ending.returned v = .returned (.bool r) ∧ R r w := by
  unfold elect_Elect_Heard.RV at h
  split at h
  · exact ⟨_, rfl, h⟩
  · exact h.elim
/-- (*e2e/sync.Sync).accept -/
def sync_Sync_accept.Call (s : Option Addr) (m0_0 m0_1 m0_2 m0_3 m0_4 m0_5 m0_6 : Int) (m0_7 : Bool) (m0_8_b : Option Addr) (m0_8_l m0_8_c : Nat) (m0_9 : ByteArray) (w : World) (R : Bool → Int → World → Prop) : Prop :=
  Calls Tryz.prog 157 #[.pointer s, .agg #[.int .i64 m0_0, .int .i64 m0_1, .int .i64 m0_2, .int .i64 m0_3, .int .i64 m0_4, .int .i64 m0_5, .int .i64 m0_6, .bool m0_7, .slice m0_8_b m0_8_l m0_8_c, .string m0_9]] w fun e w' => ∃ r0 r1, e = .returned (.tuple #[.bool r0, .int .i64 r1]) ∧ R r0 r1 w'
theorem sync_Sync_accept.Call.mono {s m0_0 m0_1 m0_2 m0_3 m0_4 m0_5 m0_6 m0_7 m0_8_b m0_8_l m0_8_c m0_9} {w : World} {R R' : Bool → Int → World → Prop} (h : sync_Sync_accept.Call s m0_0 m0_1 m0_2 m0_3 m0_4 m0_5 m0_6 m0_7 m0_8_b m0_8_l m0_8_c m0_9 w R) (hr : ∀ r0 r1 w', R r0 r1 w' → R' r0 r1 w') : sync_Sync_accept.Call s m0_0 m0_1 m0_2 m0_3 m0_4 m0_5 m0_6 m0_7 m0_8_b m0_8_l m0_8_c m0_9 w R' :=
  Calls.mono h fun e w' he => by
    obtain ⟨r0, r1, h1, h2⟩ := he
    exact ⟨r0, r1, h1, hr r0 r1 w' h2⟩
def sync_Sync_accept.RV (R : Bool → Int → World → Prop) (v : Value) (w : World) : Prop := match v with
  | .tuple ⟨[.bool r0, .int .i64 r1]⟩ => R r0 r1 w
  | _ => False
theorem sync_Sync_accept.RV_elim {R : Bool → Int → World → Prop} {v : Value} {w : World} (h : sync_Sync_accept.RV R v w) : ∃ r0 r1, Ending.returned v = .returned (.tuple #[.bool r0, .int .i64 r1]) ∧ R r0 r1 w := by
  unfold sync_Sync_accept.RV at h
  split at h
  · exact ⟨_, _, rfl, h⟩
  · exact h.elim
/-- (*e2e/rlog.Log).Install -/
def rlog_Log_Install.Call (l : Option Addr) (idx term : Int) (snap : ByteArray) (w : World) (R : Int → World → Prop) : Prop :=
  Calls Tryz.prog 158 #[.pointer l, .int .i64 idx, .int .i64 term, .string snap] w fun e w' => ∃ r, e = .returned (.int .i64 r) ∧ R r w'
theorem rlog_Log_Install.Call.mono {l idx term snap} {w : World} {R R' : Int → World → Prop} (h : rlog_Log_Install.Call l idx term snap w R) (hr : ∀ r w', R r w' → R' r w') : rlog_Log_Install.Call l idx term snap w R' :=
  Calls.mono h fun e w' he => by
    obtain ⟨r, h1, h2⟩ := he
    exact ⟨r, h1, hr r w' h2⟩
def rlog_Log_Install.RV (R : Int → World → Prop) (v : Value) (w : World) : Prop := match v with
  | .int .i64 r => R r w
  | _ => False
theorem rlog_Log_Install.RV_elim {R : Int → World → Prop} {v : Value} {w : World} (h : rlog_Log_Install.RV R v w) : ∃ r, Ending.returned v = .returned (.int .i64 r) ∧ R r w := by
  unfold rlog_Log_Install.RV at h
  split at h
  · exact ⟨_, rfl, h⟩
  · exact h.elim
/-- (*e2e/elect.Elect).See -/
def elect_Elect_See.Call (e_1 : Option Addr) (term : Int) (w : World) (R : Bool → World → Prop) : Prop :=
  Calls Tryz.prog 159 #[.pointer e_1, .int .i64 term] w fun e w' => ∃ r, e = .returned (.bool r) ∧ R r w'
theorem elect_Elect_See.Call.mono {e_1 term} {w : World} {R R' : Bool → World → Prop} (h : elect_Elect_See.Call e_1 term w R) (hr : ∀ r w', R r w' → R' r w') : elect_Elect_See.Call e_1 term w R' :=
  Calls.mono h fun e w' he => by
    obtain ⟨r, h1, h2⟩ := he
    exact ⟨r, h1, hr r w' h2⟩
def elect_Elect_See.RV (R : Bool → World → Prop) (v : Value) (w : World) : Prop := match v with
  | .bool r => R r w
  | _ => False
theorem elect_Elect_See.RV_elim {R : Bool → World → Prop} {v : Value} {w : World} (h : elect_Elect_See.RV R v w) : ∃ r, Ending.returned v = .returned (.bool r) ∧ R r w := by
  unfold elect_Elect_See.RV at h
  split at h
  · exact ⟨_, rfl, h⟩
  · exact h.elim
/-- (*e2e/sync.Sync).acked -/
def sync_Sync_acked.Call (s : Option Addr) (p index : Int) (w : World) (R : World → Prop) : Prop :=
  Calls Tryz.prog 160 #[.pointer s, .int .i64 p, .int .i64 index] w fun e w' => e = .returned (.tuple #[]) ∧ R w'
theorem sync_Sync_acked.Call.mono {s p index} {w : World} {R R' : World → Prop} (h : sync_Sync_acked.Call s p index w R) (hr : ∀ w', R w' → R'  w') : sync_Sync_acked.Call s p index w R' :=
  Calls.mono h fun e w' he => by
    obtain ⟨h1, h2⟩ := he
    exact ⟨h1, hr  w' h2⟩
def sync_Sync_acked.RV (R : World → Prop) (v : Value) (w : World) : Prop := match v with
  | .tuple ⟨[]⟩ => R w
  | _ => False
theorem sync_Sync_acked.RV_elim {R : World → Prop} {v : Value} {w : World} (h : sync_Sync_acked.RV R v w) : Ending.returned v = .returned (.tuple #[]) ∧ R w := by
  unfold sync_Sync_acked.RV at h
  split at h
  · exact ⟨rfl, h⟩
  · exact h.elim
/-- (*e2e/sync.Sync).refused -/
def sync_Sync_refused.Call (s : Option Addr) (p index : Int) (w : World) (R : World → Prop) : Prop :=
  Calls Tryz.prog 161 #[.pointer s, .int .i64 p, .int .i64 index] w fun e w' => e = .returned (.tuple #[]) ∧ R w'
theorem sync_Sync_refused.Call.mono {s p index} {w : World} {R R' : World → Prop} (h : sync_Sync_refused.Call s p index w R) (hr : ∀ w', R w' → R'  w') : sync_Sync_refused.Call s p index w R' :=
  Calls.mono h fun e w' he => by
    obtain ⟨h1, h2⟩ := he
    exact ⟨h1, hr  w' h2⟩
def sync_Sync_refused.RV (R : World → Prop) (v : Value) (w : World) : Prop := match v with
  | .tuple ⟨[]⟩ => R w
  | _ => False
theorem sync_Sync_refused.RV_elim {R : World → Prop} {v : Value} {w : World} (h : sync_Sync_refused.RV R v w) : Ending.returned v = .returned (.tuple #[]) ∧ R w := by
  unfold sync_Sync_refused.RV at h
  split at h
  · exact ⟨rfl, h⟩
  · exact h.elim
/-- (*e2e/electm.Elect).peer -/
def electm_Elect_peer.Call (e_1 : Option Addr) (p : Int) (w : World) (R : Bool → World → Prop) : Prop :=
  Calls Tryz.prog 162 #[.pointer e_1, .int .i64 p] w fun e w' => ∃ r, e = .returned (.bool r) ∧ R r w'
theorem electm_Elect_peer.Call.mono {e_1 p} {w : World} {R R' : Bool → World → Prop} (h : electm_Elect_peer.Call e_1 p w R) (hr : ∀ r w', R r w' → R' r w') : electm_Elect_peer.Call e_1 p w R' :=
  Calls.mono h fun e w' he => by
    obtain ⟨r, h1, h2⟩ := he
    exact ⟨r, h1, hr r w' h2⟩
def electm_Elect_peer.RV (R : Bool → World → Prop) (v : Value) (w : World) : Prop := match v with
  | .bool r => R r w
  | _ => False
theorem electm_Elect_peer.RV_elim {R : Bool → World → Prop} {v : Value} {w : World} (h : electm_Elect_peer.RV R v w) : ∃ r, Ending.returned v = .returned (.bool r) ∧ R r w := by
  unfold electm_Elect_peer.RV at h
  split at h
  · exact ⟨_, rfl, h⟩
  · exact h.elim
/-- (*e2e/rlogm.Log).step -/
def rlogm_Log_step.Call (l : Option Addr) (w : World) (R : World → Prop) : Prop :=
  Calls Tryz.prog 163 #[.pointer l] w fun e w' => e = .returned (.tuple #[]) ∧ R w'
theorem rlogm_Log_step.Call.mono {l} {w : World} {R R' : World → Prop} (h : rlogm_Log_step.Call l w R) (hr : ∀ w', R w' → R'  w') : rlogm_Log_step.Call l w R' :=
  Calls.mono h fun e w' he => by
    obtain ⟨h1, h2⟩ := he
    exact ⟨h1, hr  w' h2⟩
def rlogm_Log_step.RV (R : World → Prop) (v : Value) (w : World) : Prop := match v with
  | .tuple ⟨[]⟩ => R w
  | _ => False
theorem rlogm_Log_step.RV_elim {R : World → Prop} {v : Value} {w : World} (h : rlogm_Log_step.RV R v w) : Ending.returned v = .returned (.tuple #[]) ∧ R w := by
  unfold rlogm_Log_step.RV at h
  split at h
  · exact ⟨rfl, h⟩
  · exact h.elim
/-- (*e2e/rlogm.Log).TruncateFrom -/
def rlogm_Log_TruncateFrom.Call (l : Option Addr) (i : Int) (w : World) (R : Int → World → Prop) : Prop :=
  Calls Tryz.prog 164 #[.pointer l, .int .i64 i] w fun e w' => ∃ r, e = .returned (.int .i64 r) ∧ R r w'
theorem rlogm_Log_TruncateFrom.Call.mono {l i} {w : World} {R R' : Int → World → Prop} (h : rlogm_Log_TruncateFrom.Call l i w R) (hr : ∀ r w', R r w' → R' r w') : rlogm_Log_TruncateFrom.Call l i w R' :=
  Calls.mono h fun e w' he => by
    obtain ⟨r, h1, h2⟩ := he
    exact ⟨r, h1, hr r w' h2⟩
def rlogm_Log_TruncateFrom.RV (R : Int → World → Prop) (v : Value) (w : World) : Prop := match v with
  | .int .i64 r => R r w
  | _ => False
theorem rlogm_Log_TruncateFrom.RV_elim {R : Int → World → Prop} {v : Value} {w : World} (h : rlogm_Log_TruncateFrom.RV R v w) : ∃ r, Ending.returned v = .returned (.int .i64 r) ∧ R r w := by
  unfold rlogm_Log_TruncateFrom.RV at h
  split at h
  · exact ⟨_, rfl, h⟩
  · exact h.elim
/-- (*e2e/rlogm.Log).rebase -/
def rlogm_Log_rebase.Call (l : Option Addr) (idx term : Int) (snap : ByteArray) (w : World) (R : World → Prop) : Prop :=
  Calls Tryz.prog 165 #[.pointer l, .int .i64 idx, .int .i64 term, .string snap] w fun e w' => e = .returned (.tuple #[]) ∧ R w'
theorem rlogm_Log_rebase.Call.mono {l idx term snap} {w : World} {R R' : World → Prop} (h : rlogm_Log_rebase.Call l idx term snap w R) (hr : ∀ w', R w' → R'  w') : rlogm_Log_rebase.Call l idx term snap w R' :=
  Calls.mono h fun e w' he => by
    obtain ⟨h1, h2⟩ := he
    exact ⟨h1, hr  w' h2⟩
def rlogm_Log_rebase.RV (R : World → Prop) (v : Value) (w : World) : Prop := match v with
  | .tuple ⟨[]⟩ => R w
  | _ => False
theorem rlogm_Log_rebase.RV_elim {R : World → Prop} {v : Value} {w : World} (h : rlogm_Log_rebase.RV R v w) : Ending.returned v = .returned (.tuple #[]) ∧ R w := by
  unfold rlogm_Log_rebase.RV at h
  split at h
  · exact ⟨rfl, h⟩
  · exact h.elim
/-- (*e2e/rlogm.Log).pop -/
def rlogm_Log_pop.Call (l : Option Addr) (w : World) (R : World → Prop) : Prop :=
  Calls Tryz.prog 166 #[.pointer l] w fun e w' => e = .returned (.tuple #[]) ∧ R w'
theorem rlogm_Log_pop.Call.mono {l} {w : World} {R R' : World → Prop} (h : rlogm_Log_pop.Call l w R) (hr : ∀ w', R w' → R'  w') : rlogm_Log_pop.Call l w R' :=
  Calls.mono h fun e w' he => by
    obtain ⟨h1, h2⟩ := he
    exact ⟨h1, hr  w' h2⟩
def rlogm_Log_pop.RV (R : World → Prop) (v : Value) (w : World) : Prop := match v with
  | .tuple ⟨[]⟩ => R w
  | _ => False
theorem rlogm_Log_pop.RV_elim {R : World → Prop} {v : Value} {w : World} (h : rlogm_Log_pop.RV R v w) : Ending.returned v = .returned (.tuple #[]) ∧ R w := by
  unfold rlogm_Log_pop.RV at h
  split at h
  · exact ⟨rfl, h⟩
  · exact h.elim
/-- (*e2e/rlog.Log).Compact -/
def rlog_Log_Compact.Call (l : Option Addr) (upTo : Int) (snap : ByteArray) (w : World) (R : Int → World → Prop) : Prop :=
  Calls Tryz.prog 167 #[.pointer l, .int .i64 upTo, .string snap] w fun e w' => ∃ r, e = .returned (.int .i64 r) ∧ R r w'
theorem rlog_Log_Compact.Call.mono {l upTo snap} {w : World} {R R' : Int → World → Prop} (h : rlog_Log_Compact.Call l upTo snap w R) (hr : ∀ r w', R r w' → R' r w') : rlog_Log_Compact.Call l upTo snap w R' :=
  Calls.mono h fun e w' he => by
    obtain ⟨r, h1, h2⟩ := he
    exact ⟨r, h1, hr r w' h2⟩
def rlog_Log_Compact.RV (R : Int → World → Prop) (v : Value) (w : World) : Prop := match v with
  | .int .i64 r => R r w
  | _ => False
theorem rlog_Log_Compact.RV_elim {R : Int → World → Prop} {v : Value} {w : World} (h : rlog_Log_Compact.RV R v w) : ∃ r, Ending.returned v = .returned (.int .i64 r) ∧ R r w := by
  unfold rlog_Log_Compact.RV at h
  split at h
  · exact ⟨_, rfl, h⟩
  · exact h.elim
/-- (*e2e/rlogm.Log).Compact -/
def rlogm_Log_Compact.Call (l : Option Addr) (upTo : Int) (snap : ByteArray) (w : World) (R : Int → World → Prop) : Prop :=
  Calls Tryz.prog 168 #[.pointer l, .int .i64 upTo, .string snap] w fun e w' => ∃ r, e = .returned (.int .i64 r) ∧ R r w'
theorem rlogm_Log_Compact.Call.mono {l upTo snap} {w : World} {R R' : Int → World → Prop} (h : rlogm_Log_Compact.Call l upTo snap w R) (hr : ∀ r w', R r w' → R' r w') : rlogm_Log_Compact.Call l upTo snap w R' :=
  Calls.mono h fun e w' he => by
    obtain ⟨r, h1, h2⟩ := he
    exact ⟨r, h1, hr r w' h2⟩
def rlogm_Log_Compact.RV (R : Int → World → Prop) (v : Value) (w : World) : Prop := match v with
  | .int .i64 r => R r w
  | _ => False
theorem rlogm_Log_Compact.RV_elim {R : Int → World → Prop} {v : Value} {w : World} (h : rlogm_Log_Compact.RV R v w) : ∃ r, Ending.returned v = .returned (.int .i64 r) ∧ R r w := by
  unfold rlogm_Log_Compact.RV at h
  split at h
  · exact ⟨_, rfl, h⟩
  · exact h.elim
/-- (*e2e/store.Store).write -/
def store_Store_write.Call (t : Option Addr) (b : Int) (x_b : Option Addr) (x_l x_c : Nat) (w : World) (R : World → Prop) : Prop :=
  Calls Tryz.prog 169 #[.pointer t, .int .i64 b, .slice x_b x_l x_c] w fun e w' => e = .returned (.tuple #[]) ∧ R w'
theorem store_Store_write.Call.mono {t b x_b x_l x_c} {w : World} {R R' : World → Prop} (h : store_Store_write.Call t b x_b x_l x_c w R) (hr : ∀ w', R w' → R'  w') : store_Store_write.Call t b x_b x_l x_c w R' :=
  Calls.mono h fun e w' he => by
    obtain ⟨h1, h2⟩ := he
    exact ⟨h1, hr  w' h2⟩
def store_Store_write.RV (R : World → Prop) (v : Value) (w : World) : Prop := match v with
  | .tuple ⟨[]⟩ => R w
  | _ => False
theorem store_Store_write.RV_elim {R : World → Prop} {v : Value} {w : World} (h : store_Store_write.RV R v w) : Ending.returned v = .returned (.tuple #[]) ∧ R w := by
  unfold store_Store_write.RV at h
  split at h
  · exact ⟨rfl, h⟩
  · exact h.elim
/-- (*e2e/store.Store).SetMeta -/
def store_Store_SetMeta.Call (t : Option Addr) (term vote : Int) (w : World) (R : Int → World → Prop) : Prop :=
  Calls Tryz.prog 170 #[.pointer t, .int .i64 term, .int .i64 vote] w fun e w' => ∃ r, e = .returned (.int .i64 r) ∧ R r w'
theorem store_Store_SetMeta.Call.mono {t term vote} {w : World} {R R' : Int → World → Prop} (h : store_Store_SetMeta.Call t term vote w R) (hr : ∀ r w', R r w' → R' r w') : store_Store_SetMeta.Call t term vote w R' :=
  Calls.mono h fun e w' he => by
    obtain ⟨r, h1, h2⟩ := he
    exact ⟨r, h1, hr r w' h2⟩
def store_Store_SetMeta.RV (R : Int → World → Prop) (v : Value) (w : World) : Prop := match v with
  | .int .i64 r => R r w
  | _ => False
theorem store_Store_SetMeta.RV_elim {R : Int → World → Prop} {v : Value} {w : World} (h : store_Store_SetMeta.RV R v w) : ∃ r, Ending.returned v = .returned (.int .i64 r) ∧ R r w := by
  unfold store_Store_SetMeta.RV at h
  split at h
  · exact ⟨_, rfl, h⟩
  · exact h.elim
/-- (*e2e/elect.Elect).peer -/
def elect_Elect_peer.Call (e_1 : Option Addr) (p : Int) (w : World) (R : Bool → World → Prop) : Prop :=
  Calls Tryz.prog 171 #[.pointer e_1, .int .i64 p] w fun e w' => ∃ r, e = .returned (.bool r) ∧ R r w'
theorem elect_Elect_peer.Call.mono {e_1 p} {w : World} {R R' : Bool → World → Prop} (h : elect_Elect_peer.Call e_1 p w R) (hr : ∀ r w', R r w' → R' r w') : elect_Elect_peer.Call e_1 p w R' :=
  Calls.mono h fun e w' he => by
    obtain ⟨r, h1, h2⟩ := he
    exact ⟨r, h1, hr r w' h2⟩
def elect_Elect_peer.RV (R : Bool → World → Prop) (v : Value) (w : World) : Prop := match v with
  | .bool r => R r w
  | _ => False
theorem elect_Elect_peer.RV_elim {R : Bool → World → Prop} {v : Value} {w : World} (h : elect_Elect_peer.RV R v w) : ∃ r, Ending.returned v = .returned (.bool r) ∧ R r w := by
  unfold elect_Elect_peer.RV at h
  split at h
  · exact ⟨_, rfl, h⟩
  · exact h.elim
/-- e2e/elect.count -/
def elect_count.Call (mask : Int) (w : World) (R : Int → World → Prop) : Prop :=
  Calls Tryz.prog 172 #[.int .i64 mask] w fun e w' => ∃ r, e = .returned (.int .i64 r) ∧ R r w'
theorem elect_count.Call.mono {mask} {w : World} {R R' : Int → World → Prop} (h : elect_count.Call mask w R) (hr : ∀ r w', R r w' → R' r w') : elect_count.Call mask w R' :=
  Calls.mono h fun e w' he => by
    obtain ⟨r, h1, h2⟩ := he
    exact ⟨r, h1, hr r w' h2⟩
def elect_count.RV (R : Int → World → Prop) (v : Value) (w : World) : Prop := match v with
  | .int .i64 r => R r w
  | _ => False
theorem elect_count.RV_elim {R : Int → World → Prop} {v : Value} {w : World} (h : elect_count.RV R v w) : ∃ r, Ending.returned v = .returned (.int .i64 r) ∧ R r w := by
  unfold elect_count.RV at h
  split at h
  · exact ⟨_, rfl, h⟩
  · exact h.elim
/-- (*e2e/rlog.Log).Append -/
def rlog_Log_Append.Call (l : Option Addr) (e_0 : Int) (e_1 : ByteArray) (w : World) (R : Int → World → Prop) : Prop :=
  Calls Tryz.prog 173 #[.pointer l, .agg #[.int .i64 e_0, .string e_1]] w fun e w' => ∃ r, e = .returned (.int .i64 r) ∧ R r w'
theorem rlog_Log_Append.Call.mono {l e_0 e_1} {w : World} {R R' : Int → World → Prop} (h : rlog_Log_Append.Call l e_0 e_1 w R) (hr : ∀ r w', R r w' → R' r w') : rlog_Log_Append.Call l e_0 e_1 w R' :=
  Calls.mono h fun e w' he => by
    obtain ⟨r, h1, h2⟩ := he
    exact ⟨r, h1, hr r w' h2⟩
def rlog_Log_Append.RV (R : Int → World → Prop) (v : Value) (w : World) : Prop := match v with
  | .int .i64 r => R r w
  | _ => False
theorem rlog_Log_Append.RV_elim {R : Int → World → Prop} {v : Value} {w : World} (h : rlog_Log_Append.RV R v w) : ∃ r, Ending.returned v = .returned (.int .i64 r) ∧ R r w := by
  unfold rlog_Log_Append.RV at h
  split at h
  · exact ⟨_, rfl, h⟩
  · exact h.elim
/-- (*e2e/sync.Sync).agree -/
def sync_Sync_agree.Call (s : Option Addr) (prev : Int) (ents_b : Option Addr) (ents_l ents_c : Nat) (w : World) (R : Int → World → Prop) : Prop :=
  Calls Tryz.prog 174 #[.pointer s, .int .i64 prev, .slice ents_b ents_l ents_c] w fun e w' => ∃ r, e = .returned (.int .i64 r) ∧ R r w'
theorem sync_Sync_agree.Call.mono {s prev ents_b ents_l ents_c} {w : World} {R R' : Int → World → Prop} (h : sync_Sync_agree.Call s prev ents_b ents_l ents_c w R) (hr : ∀ r w', R r w' → R' r w') : sync_Sync_agree.Call s prev ents_b ents_l ents_c w R' :=
  Calls.mono h fun e w' he => by
    obtain ⟨r, h1, h2⟩ := he
    exact ⟨r, h1, hr r w' h2⟩
def sync_Sync_agree.RV (R : Int → World → Prop) (v : Value) (w : World) : Prop := match v with
  | .int .i64 r => R r w
  | _ => False
theorem sync_Sync_agree.RV_elim {R : Int → World → Prop} {v : Value} {w : World} (h : sync_Sync_agree.RV R v w) : ∃ r, Ending.returned v = .returned (.int .i64 r) ∧ R r w := by
  unfold sync_Sync_agree.RV at h
  split at h
  · exact ⟨_, rfl, h⟩
  · exact h.elim
/-- (*e2e/sync.Sync).repair -/
def sync_Sync_repair.Call (s : Option Addr) (i : Int) (ents_b : Option Addr) (ents_l ents_c : Nat) (k : Int) (w : World) (R : Int → World → Prop) : Prop :=
  Calls Tryz.prog 175 #[.pointer s, .int .i64 i, .slice ents_b ents_l ents_c, .int .i64 k] w fun e w' => ∃ r, e = .returned (.int .i64 r) ∧ R r w'
theorem sync_Sync_repair.Call.mono {s i ents_b ents_l ents_c k} {w : World} {R R' : Int → World → Prop} (h : sync_Sync_repair.Call s i ents_b ents_l ents_c k w R) (hr : ∀ r w', R r w' → R' r w') : sync_Sync_repair.Call s i ents_b ents_l ents_c k w R' :=
  Calls.mono h fun e w' he => by
    obtain ⟨r, h1, h2⟩ := he
    exact ⟨r, h1, hr r w' h2⟩
def sync_Sync_repair.RV (R : Int → World → Prop) (v : Value) (w : World) : Prop := match v with
  | .int .i64 r => R r w
  | _ => False
theorem sync_Sync_repair.RV_elim {R : Int → World → Prop} {v : Value} {w : World} (h : sync_Sync_repair.RV R v w) : ∃ r, Ending.returned v = .returned (.int .i64 r) ∧ R r w := by
  unfold sync_Sync_repair.RV at h
  split at h
  · exact ⟨_, rfl, h⟩
  · exact h.elim
/-- (*e2e/rlog.Log).rebase -/
def rlog_Log_rebase.Call (l : Option Addr) (idx term : Int) (snap : ByteArray) (w : World) (R : Int → World → Prop) : Prop :=
  Calls Tryz.prog 176 #[.pointer l, .int .i64 idx, .int .i64 term, .string snap] w fun e w' => ∃ r, e = .returned (.int .i64 r) ∧ R r w'
theorem rlog_Log_rebase.Call.mono {l idx term snap} {w : World} {R R' : Int → World → Prop} (h : rlog_Log_rebase.Call l idx term snap w R) (hr : ∀ r w', R r w' → R' r w') : rlog_Log_rebase.Call l idx term snap w R' :=
  Calls.mono h fun e w' he => by
    obtain ⟨r, h1, h2⟩ := he
    exact ⟨r, h1, hr r w' h2⟩
def rlog_Log_rebase.RV (R : Int → World → Prop) (v : Value) (w : World) : Prop := match v with
  | .int .i64 r => R r w
  | _ => False
theorem rlog_Log_rebase.RV_elim {R : Int → World → Prop} {v : Value} {w : World} (h : rlog_Log_rebase.RV R v w) : ∃ r, Ending.returned v = .returned (.int .i64 r) ∧ R r w := by
  unfold rlog_Log_rebase.RV at h
  split at h
  · exact ⟨_, rfl, h⟩
  · exact h.elim
/-- (*e2e/rlog.Log).dropFrom -/
def rlog_Log_dropFrom.Call (l : Option Addr) (i : Int) (w : World) (R : Int → World → Prop) : Prop :=
  Calls Tryz.prog 177 #[.pointer l, .int .i64 i] w fun e w' => ∃ r, e = .returned (.int .i64 r) ∧ R r w'
theorem rlog_Log_dropFrom.Call.mono {l i} {w : World} {R R' : Int → World → Prop} (h : rlog_Log_dropFrom.Call l i w R) (hr : ∀ r w', R r w' → R' r w') : rlog_Log_dropFrom.Call l i w R' :=
  Calls.mono h fun e w' he => by
    obtain ⟨r, h1, h2⟩ := he
    exact ⟨r, h1, hr r w' h2⟩
def rlog_Log_dropFrom.RV (R : Int → World → Prop) (v : Value) (w : World) : Prop := match v with
  | .int .i64 r => R r w
  | _ => False
theorem rlog_Log_dropFrom.RV_elim {R : Int → World → Prop} {v : Value} {w : World} (h : rlog_Log_dropFrom.RV R v w) : ∃ r, Ending.returned v = .returned (.int .i64 r) ∧ R r w := by
  unfold rlog_Log_dropFrom.RV at h
  split at h
  · exact ⟨_, rfl, h⟩
  · exact h.elim
/-- (*e2e/store.Store).SetSnap -/
def store_Store_SetSnap.Call (t : Option Addr) (idx term : Int) (data : ByteArray) (w : World) (R : Int → World → Prop) : Prop :=
  Calls Tryz.prog 178 #[.pointer t, .int .i64 idx, .int .i64 term, .string data] w fun e w' => ∃ r, e = .returned (.int .i64 r) ∧ R r w'
theorem store_Store_SetSnap.Call.mono {t idx term data} {w : World} {R R' : Int → World → Prop} (h : store_Store_SetSnap.Call t idx term data w R) (hr : ∀ r w', R r w' → R' r w') : store_Store_SetSnap.Call t idx term data w R' :=
  Calls.mono h fun e w' he => by
    obtain ⟨r, h1, h2⟩ := he
    exact ⟨r, h1, hr r w' h2⟩
def store_Store_SetSnap.RV (R : Int → World → Prop) (v : Value) (w : World) : Prop := match v with
  | .int .i64 r => R r w
  | _ => False
theorem store_Store_SetSnap.RV_elim {R : Int → World → Prop} {v : Value} {w : World} (h : store_Store_SetSnap.RV R v w) : ∃ r, Ending.returned v = .returned (.int .i64 r) ∧ R r w := by
  unfold store_Store_SetSnap.RV at h
  split at h
  · exact ⟨_, rfl, h⟩
  · exact h.elim
/-- (*e2e/sync.Sync).advance -/
def sync_Sync_advance.Call (s : Option Addr) (w : World) (R : World → Prop) : Prop :=
  Calls Tryz.prog 179 #[.pointer s] w fun e w' => e = .returned (.tuple #[]) ∧ R w'
theorem sync_Sync_advance.Call.mono {s} {w : World} {R R' : World → Prop} (h : sync_Sync_advance.Call s w R) (hr : ∀ w', R w' → R'  w') : sync_Sync_advance.Call s w R' :=
  Calls.mono h fun e w' he => by
    obtain ⟨h1, h2⟩ := he
    exact ⟨h1, hr  w' h2⟩
def sync_Sync_advance.RV (R : World → Prop) (v : Value) (w : World) : Prop := match v with
  | .tuple ⟨[]⟩ => R w
  | _ => False
theorem sync_Sync_advance.RV_elim {R : World → Prop} {v : Value} {w : World} (h : sync_Sync_advance.RV R v w) : Ending.returned v = .returned (.tuple #[]) ∧ R w := by
  unfold sync_Sync_advance.RV at h
  split at h
  · exact ⟨rfl, h⟩
  · exact h.elim
/-- e2e/store.next -/
def store_next.Call (old : Int) (w : World) (R : Int → World → Prop) : Prop :=
  Calls Tryz.prog 180 #[.int .u8 old] w fun e w' => ∃ r, e = .returned (.int .u8 r) ∧ R r w'
theorem store_next.Call.mono {old} {w : World} {R R' : Int → World → Prop} (h : store_next.Call old w R) (hr : ∀ r w', R r w' → R' r w') : store_next.Call old w R' :=
  Calls.mono h fun e w' he => by
    obtain ⟨r, h1, h2⟩ := he
    exact ⟨r, h1, hr r w' h2⟩
def store_next.RV (R : Int → World → Prop) (v : Value) (w : World) : Prop := match v with
  | .int .u8 r => R r w
  | _ => False
theorem store_next.RV_elim {R : Int → World → Prop} {v : Value} {w : World} (h : store_next.RV R v w) : ∃ r, Ending.returned v = .returned (.int .u8 r) ∧ R r w := by
  unfold store_next.RV at h
  split at h
  · exact ⟨_, rfl, h⟩
  · exact h.elim
/-- (*e2e/diskm.Disk).Write -/
def diskm_Disk_Write.Call (d : Option Addr) (b : Int) (x : ByteArray) (w : World) (R : Int → World → Prop) : Prop :=
  Calls Tryz.prog 181 #[.pointer d, .int .i64 b, .string x] w fun e w' => ∃ r, e = .returned (.int .i64 r) ∧ R r w'
theorem diskm_Disk_Write.Call.mono {d b x} {w : World} {R R' : Int → World → Prop} (h : diskm_Disk_Write.Call d b x w R) (hr : ∀ r w', R r w' → R' r w') : diskm_Disk_Write.Call d b x w R' :=
  Calls.mono h fun e w' he => by
    obtain ⟨r, h1, h2⟩ := he
    exact ⟨r, h1, hr r w' h2⟩
def diskm_Disk_Write.RV (R : Int → World → Prop) (v : Value) (w : World) : Prop := match v with
  | .int .i64 r => R r w
  | _ => False
theorem diskm_Disk_Write.RV_elim {R : Int → World → Prop} {v : Value} {w : World} (h : diskm_Disk_Write.RV R v w) : ∃ r, Ending.returned v = .returned (.int .i64 r) ∧ R r w := by
  unfold diskm_Disk_Write.RV at h
  split at h
  · exact ⟨_, rfl, h⟩
  · exact h.elim
/-- e2e/store.encMeta -/
def store_encMeta.Call (m0_0 : Bool) (m0_1 m0_2 m0_3 : Int) (w : World) (R : Option Addr → Nat → Nat → World → Prop) : Prop :=
  Calls Tryz.prog 182 #[.agg #[.bool m0_0, .int .i64 m0_1, .int .i64 m0_2, .int .i64 m0_3]] w fun e w' => ∃ r_b r_l r_c, e = .returned (.slice r_b r_l r_c) ∧ R r_b r_l r_c w'
theorem store_encMeta.Call.mono {m0_0 m0_1 m0_2 m0_3} {w : World} {R R' : Option Addr → Nat → Nat → World → Prop} (h : store_encMeta.Call m0_0 m0_1 m0_2 m0_3 w R) (hr : ∀ r_b r_l r_c w', R r_b r_l r_c w' → R' r_b r_l r_c w') : store_encMeta.Call m0_0 m0_1 m0_2 m0_3 w R' :=
  Calls.mono h fun e w' he => by
    obtain ⟨r_b, r_l, r_c, h1, h2⟩ := he
    exact ⟨r_b, r_l, r_c, h1, hr r_b r_l r_c w' h2⟩
def store_encMeta.RV (R : Option Addr → Nat → Nat → World → Prop) (v : Value) (w : World) : Prop := match v with
  | .slice r_b r_l r_c => R r_b r_l r_c w
  | _ => False
theorem store_encMeta.RV_elim {R : Option Addr → Nat → Nat → World → Prop} {v : Value} {w : World} (h : store_encMeta.RV R v w) : ∃ r_b r_l r_c, Ending.returned v = .returned (.slice r_b r_l r_c) ∧ R r_b r_l r_c w := by
  unfold store_encMeta.RV at h
  split at h
  · exact ⟨_, _, _, rfl, h⟩
  · exact h.elim
/-- (*e2e/store.Store).PutRec -/
def store_Store_PutRec.Call (t : Option Addr) (slot r_0 r_1 : Int) (r_2 : ByteArray) (w : World) (R : Int → World → Prop) : Prop :=
  Calls Tryz.prog 183 #[.pointer t, .int .i64 slot, .agg #[.int .i64 r_0, .int .i64 r_1, .string r_2]] w fun e w' => ∃ r, e = .returned (.int .i64 r) ∧ R r w'
theorem store_Store_PutRec.Call.mono {t slot r_0 r_1 r_2} {w : World} {R R' : Int → World → Prop} (h : store_Store_PutRec.Call t slot r_0 r_1 r_2 w R) (hr : ∀ r w', R r w' → R' r w') : store_Store_PutRec.Call t slot r_0 r_1 r_2 w R' :=
  Calls.mono h fun e w' he => by
    obtain ⟨r, h1, h2⟩ := he
    exact ⟨r, h1, hr r w' h2⟩
def store_Store_PutRec.RV (R : Int → World → Prop) (v : Value) (w : World) : Prop := match v with
  | .int .i64 r => R r w
  | _ => False
theorem store_Store_PutRec.RV_elim {R : Int → World → Prop} {v : Value} {w : World} (h : store_Store_PutRec.RV R v w) : ∃ r, Ending.returned v = .returned (.int .i64 r) ∧ R r w := by
  unfold store_Store_PutRec.RV at h
  split at h
  · exact ⟨_, rfl, h⟩
  · exact h.elim
/-- (*e2e/rlog.Log).TruncateFrom -/
def rlog_Log_TruncateFrom.Call (l : Option Addr) (i : Int) (w : World) (R : Int → World → Prop) : Prop :=
  Calls Tryz.prog 184 #[.pointer l, .int .i64 i] w fun e w' => ∃ r, e = .returned (.int .i64 r) ∧ R r w'
theorem rlog_Log_TruncateFrom.Call.mono {l i} {w : World} {R R' : Int → World → Prop} (h : rlog_Log_TruncateFrom.Call l i w R) (hr : ∀ r w', R r w' → R' r w') : rlog_Log_TruncateFrom.Call l i w R' :=
  Calls.mono h fun e w' he => by
    obtain ⟨r, h1, h2⟩ := he
    exact ⟨r, h1, hr r w' h2⟩
def rlog_Log_TruncateFrom.RV (R : Int → World → Prop) (v : Value) (w : World) : Prop := match v with
  | .int .i64 r => R r w
  | _ => False
theorem rlog_Log_TruncateFrom.RV_elim {R : Int → World → Prop} {v : Value} {w : World} (h : rlog_Log_TruncateFrom.RV R v w) : ∃ r, Ending.returned v = .returned (.int .i64 r) ∧ R r w := by
  unfold rlog_Log_TruncateFrom.RV at h
  split at h
  · exact ⟨_, rfl, h⟩
  · exact h.elim
/-- e2e/store.chunk -/
def store_chunk.Call (data : ByteArray) (k : Int) (w : World) (R : ByteArray → World → Prop) : Prop :=
  Calls Tryz.prog 185 #[.string data, .int .i64 k] w fun e w' => ∃ r, e = .returned (.string r) ∧ R r w'
theorem store_chunk.Call.mono {data k} {w : World} {R R' : ByteArray → World → Prop} (h : store_chunk.Call data k w R) (hr : ∀ r w', R r w' → R' r w') : store_chunk.Call data k w R' :=
  Calls.mono h fun e w' he => by
    obtain ⟨r, h1, h2⟩ := he
    exact ⟨r, h1, hr r w' h2⟩
def store_chunk.RV (R : ByteArray → World → Prop) (v : Value) (w : World) : Prop := match v with
  | .string r => R r w
  | _ => False
theorem store_chunk.RV_elim {R : ByteArray → World → Prop} {v : Value} {w : World} (h : store_chunk.RV R v w) : ∃ r, Ending.returned v = .returned (.string r) ∧ R r w := by
  unfold store_chunk.RV at h
  split at h
  · exact ⟨_, rfl, h⟩
  · exact h.elim
/-- e2e/store.encHead -/
def store_encHead.Call (h0_0 : Bool) (h0_1 h0_2 h0_3 h0_4 h0_5 : Int) (w : World) (R : Option Addr → Nat → Nat → World → Prop) : Prop :=
  Calls Tryz.prog 186 #[.agg #[.bool h0_0, .int .i64 h0_1, .int .i64 h0_2, .int .i64 h0_3, .int .i64 h0_4, .int .i64 h0_5]] w fun e w' => ∃ r_b r_l r_c, e = .returned (.slice r_b r_l r_c) ∧ R r_b r_l r_c w'
theorem store_encHead.Call.mono {h0_0 h0_1 h0_2 h0_3 h0_4 h0_5} {w : World} {R R' : Option Addr → Nat → Nat → World → Prop} (h : store_encHead.Call h0_0 h0_1 h0_2 h0_3 h0_4 h0_5 w R) (hr : ∀ r_b r_l r_c w', R r_b r_l r_c w' → R' r_b r_l r_c w') : store_encHead.Call h0_0 h0_1 h0_2 h0_3 h0_4 h0_5 w R' :=
  Calls.mono h fun e w' he => by
    obtain ⟨r_b, r_l, r_c, h1, h2⟩ := he
    exact ⟨r_b, r_l, r_c, h1, hr r_b r_l r_c w' h2⟩
def store_encHead.RV (R : Option Addr → Nat → Nat → World → Prop) (v : Value) (w : World) : Prop := match v with
  | .slice r_b r_l r_c => R r_b r_l r_c w
  | _ => False
theorem store_encHead.RV_elim {R : Option Addr → Nat → Nat → World → Prop} {v : Value} {w : World} (h : store_encHead.RV R v w) : ∃ r_b r_l r_c, Ending.returned v = .returned (.slice r_b r_l r_c) ∧ R r_b r_l r_c w := by
  unfold store_encHead.RV at h
  split at h
  · exact ⟨_, _, _, rfl, h⟩
  · exact h.elim
/-- e2e/sync.sorted -/
def sync_sorted.Call (a_0 a_1 a_2 : Int) (w : World) (R : Int → Int → Int → World → Prop) : Prop :=
  Calls Tryz.prog 187 #[.agg #[.int .i64 a_0, .int .i64 a_1, .int .i64 a_2]] w fun e w' => ∃ r_0 r_1 r_2, e = .returned (.agg #[.int .i64 r_0, .int .i64 r_1, .int .i64 r_2]) ∧ R r_0 r_1 r_2 w'
theorem sync_sorted.Call.mono {a_0 a_1 a_2} {w : World} {R R' : Int → Int → Int → World → Prop} (h : sync_sorted.Call a_0 a_1 a_2 w R) (hr : ∀ r_0 r_1 r_2 w', R r_0 r_1 r_2 w' → R' r_0 r_1 r_2 w') : sync_sorted.Call a_0 a_1 a_2 w R' :=
  Calls.mono h fun e w' he => by
    obtain ⟨r_0, r_1, r_2, h1, h2⟩ := he
    exact ⟨r_0, r_1, r_2, h1, hr r_0 r_1 r_2 w' h2⟩
def sync_sorted.RV (R : Int → Int → Int → World → Prop) (v : Value) (w : World) : Prop := match v with
  | .agg ⟨[.int .i64 r_0, .int .i64 r_1, .int .i64 r_2]⟩ => R r_0 r_1 r_2 w
  | _ => False
theorem sync_sorted.RV_elim {R : Int → Int → Int → World → Prop} {v : Value} {w : World} (h : sync_sorted.RV R v w) : ∃ r_0 r_1 r_2, Ending.returned v = .returned (.agg #[.int .i64 r_0, .int .i64 r_1, .int .i64 r_2]) ∧ R r_0 r_1 r_2 w := by
  unfold sync_sorted.RV at h
  split at h
  · exact ⟨_, _, _, rfl, h⟩
  · exact h.elim
/-- e2e/store.put8 -/
def store_put8.Call (b_b : Option Addr) (b_l b_c : Nat) (at0 v_1 : Int) (w : World) (R : Option Addr → Nat → Nat → World → Prop) : Prop :=
  Calls Tryz.prog 188 #[.slice b_b b_l b_c, .int .i64 at0, .int .i64 v_1] w fun e w' => ∃ r_b r_l r_c, e = .returned (.slice r_b r_l r_c) ∧ R r_b r_l r_c w'
theorem store_put8.Call.mono {b_b b_l b_c at0 v_1} {w : World} {R R' : Option Addr → Nat → Nat → World → Prop} (h : store_put8.Call b_b b_l b_c at0 v_1 w R) (hr : ∀ r_b r_l r_c w', R r_b r_l r_c w' → R' r_b r_l r_c w') : store_put8.Call b_b b_l b_c at0 v_1 w R' :=
  Calls.mono h fun e w' he => by
    obtain ⟨r_b, r_l, r_c, h1, h2⟩ := he
    exact ⟨r_b, r_l, r_c, h1, hr r_b r_l r_c w' h2⟩
def store_put8.RV (R : Option Addr → Nat → Nat → World → Prop) (v : Value) (w : World) : Prop := match v with
  | .slice r_b r_l r_c => R r_b r_l r_c w
  | _ => False
theorem store_put8.RV_elim {R : Option Addr → Nat → Nat → World → Prop} {v : Value} {w : World} (h : store_put8.RV R v w) : ∃ r_b r_l r_c, Ending.returned v = .returned (.slice r_b r_l r_c) ∧ R r_b r_l r_c w := by
  unfold store_put8.RV at h
  split at h
  · exact ⟨_, _, _, rfl, h⟩
  · exact h.elim
/-- e2e/store.encRec -/
def store_encRec.Call (r_0 r_1 : Int) (r_2 : ByteArray) (w : World) (R : Option Addr → Nat → Nat → World → Prop) : Prop :=
  Calls Tryz.prog 189 #[.agg #[.int .i64 r_0, .int .i64 r_1, .string r_2]] w fun e w' => ∃ r_b r_l r_c, e = .returned (.slice r_b r_l r_c) ∧ R r_b r_l r_c w'
theorem store_encRec.Call.mono {r_0 r_1 r_2} {w : World} {R R' : Option Addr → Nat → Nat → World → Prop} (h : store_encRec.Call r_0 r_1 r_2 w R) (hr : ∀ r_b r_l r_c w', R r_b r_l r_c w' → R' r_b r_l r_c w') : store_encRec.Call r_0 r_1 r_2 w R' :=
  Calls.mono h fun e w' he => by
    obtain ⟨r_b, r_l, r_c, h1, h2⟩ := he
    exact ⟨r_b, r_l, r_c, h1, hr r_b r_l r_c w' h2⟩
def store_encRec.RV (R : Option Addr → Nat → Nat → World → Prop) (v : Value) (w : World) : Prop := match v with
  | .slice r_b r_l r_c => R r_b r_l r_c w
  | _ => False
theorem store_encRec.RV_elim {R : Option Addr → Nat → Nat → World → Prop} {v : Value} {w : World} (h : store_encRec.RV R v w) : ∃ r_b r_l r_c, Ending.returned v = .returned (.slice r_b r_l r_c) ∧ R r_b r_l r_c w := by
  unfold store_encRec.RV at h
  split at h
  · exact ⟨_, _, _, rfl, h⟩
  · exact h.elim
end Go.Proofs.Qxb6500433aGreat
