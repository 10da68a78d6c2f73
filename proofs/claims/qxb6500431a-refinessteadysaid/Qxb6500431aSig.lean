import Derived.Test.Qxb6500431aProg
import Derived.Test.Qxb6500431aVcC
open Go.Vc
namespace Go.Proofs.Qxb6500431a
theorem Try.mixed : Try.prog.follows .mixedOrders = true := by kernel_rfl
abbrev T_int64 : TypeId := 2
abbrev T_int : TypeId := 3
abbrev T_bool : TypeId := 4
abbrev T_uint8 : TypeId := 5
abbrev T_string : TypeId := 9
abbrev T_uintptr : TypeId := 12
abbrev T_int32 : TypeId := 21
abbrev T_rloglaw_Below : TypeId := 30
abbrev T_api_Op : TypeId := 39
abbrev T_api_Entry : TypeId := 54
abbrev T_rlogm_state : TypeId := 57
abbrev T_rlogm_Log : TypeId := 60
abbrev T_api_Rec : TypeId := 72
abbrev T_api_Errno : TypeId := 73
abbrev T_rlog_Log : TypeId := 80
abbrev T_diskm_Disk : TypeId := 87
abbrev T_store_meta : TypeId := 91
abbrev T_store_head : TypeId := 93
abbrev T_store_Store : TypeId := 97
abbrev T_diskm_half : TypeId := 114
abbrev T_uint : TypeId := 122
abbrev T_uint32 : TypeId := 134
/-- e2e/rloglaw.Refines -/
def rloglaw_Refines.Call (script_b : Option Addr) (script_l script_c : Nat) (w : World) (R : Bool → World → Prop) : Prop :=
  Calls Try.prog 3 #[.slice script_b script_l script_c] w fun e w' => ∃ r, e = .returned (.bool r) ∧ R r w'
theorem rloglaw_Refines.Call.mono {script_b script_l script_c} {w : World} {R R' : Bool → World → Prop} (h : rloglaw_Refines.Call script_b script_l script_c w R) (hr : ∀ r w', R r w' → R' r w') : rloglaw_Refines.Call script_b script_l script_c w R' :=
  Calls.mono h fun e w' he => by
    obtain ⟨r, h1, h2⟩ := he
    exact ⟨r, h1, hr r w' h2⟩
def rloglaw_Refines.RV (R : Bool → World → Prop) (v : Value) (w : World) : Prop := match v with
  | .bool r => R r w
  | _ => False
theorem rloglaw_Refines.RV_elim {R : Bool → World → Prop} {v : Value} {w : World} (h : rloglaw_Refines.RV R v w) : ∃ r, Ending.returned v = .returned (.bool r) ∧ R r w := by
  unfold rloglaw_Refines.RV at h
  split at h
  · exact ⟨_, rfl, h⟩
  · exact h.elim
/-- e2e/rloglaw.RefinesSteady -/
def rloglaw_RefinesSteady.Call (script_b : Option Addr) (script_l script_c : Nat) (w : World) (R : Bool → World → Prop) : Prop :=
  Calls Try.prog 4 #[.slice script_b script_l script_c] w fun e w' => ∃ r, e = .returned (.bool r) ∧ R r w'
theorem rloglaw_RefinesSteady.Call.mono {script_b script_l script_c} {w : World} {R R' : Bool → World → Prop} (h : rloglaw_RefinesSteady.Call script_b script_l script_c w R) (hr : ∀ r w', R r w' → R' r w') : rloglaw_RefinesSteady.Call script_b script_l script_c w R' :=
  Calls.mono h fun e w' he => by
    obtain ⟨r, h1, h2⟩ := he
    exact ⟨r, h1, hr r w' h2⟩
def rloglaw_RefinesSteady.RV (R : Bool → World → Prop) (v : Value) (w : World) : Prop := match v with
  | .bool r => R r w
  | _ => False
theorem rloglaw_RefinesSteady.RV_elim {R : Bool → World → Prop} {v : Value} {w : World} (h : rloglaw_RefinesSteady.RV R v w) : ∃ r, Ending.returned v = .returned (.bool r) ∧ R r w := by
  unfold rloglaw_RefinesSteady.RV at h
  split at h
  · exact ⟨_, rfl, h⟩
  · exact h.elim
/-- e2e/rloglaw.RefinesQuiet -/
def rloglaw_RefinesQuiet.Call (script_b : Option Addr) (script_l script_c : Nat) (w : World) (R : Bool → World → Prop) : Prop :=
  Calls Try.prog 5 #[.slice script_b script_l script_c] w fun e w' => ∃ r, e = .returned (.bool r) ∧ R r w'
theorem rloglaw_RefinesQuiet.Call.mono {script_b script_l script_c} {w : World} {R R' : Bool → World → Prop} (h : rloglaw_RefinesQuiet.Call script_b script_l script_c w R) (hr : ∀ r w', R r w' → R' r w') : rloglaw_RefinesQuiet.Call script_b script_l script_c w R' :=
  Calls.mono h fun e w' he => by
    obtain ⟨r, h1, h2⟩ := he
    exact ⟨r, h1, hr r w' h2⟩
def rloglaw_RefinesQuiet.RV (R : Bool → World → Prop) (v : Value) (w : World) : Prop := match v with
  | .bool r => R r w
  | _ => False
theorem rloglaw_RefinesQuiet.RV_elim {R : Bool → World → Prop} {v : Value} {w : World} (h : rloglaw_RefinesQuiet.RV R v w) : ∃ r, Ending.returned v = .returned (.bool r) ∧ R r w := by
  unfold rloglaw_RefinesQuiet.RV at h
  split at h
  · exact ⟨_, rfl, h⟩
  · exact h.elim
/-- e2e/rloglaw.RefinesUpTo -/
def rloglaw_RefinesUpTo.Call (script_b : Option Addr) (script_l script_c : Nat) (w : World) (R : Int → World → Prop) : Prop :=
  Calls Try.prog 6 #[.slice script_b script_l script_c] w fun e w' => ∃ r, e = .returned (.int .i64 r) ∧ R r w'
theorem rloglaw_RefinesUpTo.Call.mono {script_b script_l script_c} {w : World} {R R' : Int → World → Prop} (h : rloglaw_RefinesUpTo.Call script_b script_l script_c w R) (hr : ∀ r w', R r w' → R' r w') : rloglaw_RefinesUpTo.Call script_b script_l script_c w R' :=
  Calls.mono h fun e w' he => by
    obtain ⟨r, h1, h2⟩ := he
    exact ⟨r, h1, hr r w' h2⟩
def rloglaw_RefinesUpTo.RV (R : Int → World → Prop) (v : Value) (w : World) : Prop := match v with
  | .int .i64 r => R r w
  | _ => False
theorem rloglaw_RefinesUpTo.RV_elim {R : Int → World → Prop} {v : Value} {w : World} (h : rloglaw_RefinesUpTo.RV R v w) : ∃ r, Ending.returned v = .returned (.int .i64 r) ∧ R r w := by
  unfold rloglaw_RefinesUpTo.RV at h
  split at h
  · exact ⟨_, rfl, h⟩
  · exact h.elim
/-- e2e/rloglaw.walk -/
def rloglaw_walk.Call (script_b : Option Addr) (script_l script_c : Nat) (steady quiet : Bool) (w : World) (R : Int → Int → World → Prop) : Prop :=
  Calls Try.prog 7 #[.slice script_b script_l script_c, .bool steady, .bool quiet] w fun e w' => ∃ r0 r1, e = .returned (.tuple #[.int .i64 r0, .int .i64 r1]) ∧ R r0 r1 w'
theorem rloglaw_walk.Call.mono {script_b script_l script_c steady quiet} {w : World} {R R' : Int → Int → World → Prop} (h : rloglaw_walk.Call script_b script_l script_c steady quiet w R) (hr : ∀ r0 r1 w', R r0 r1 w' → R' r0 r1 w') : rloglaw_walk.Call script_b script_l script_c steady quiet w R' :=
  Calls.mono h fun e w' he => by
    obtain ⟨r0, r1, h1, h2⟩ := he
    exact ⟨r0, r1, h1, hr r0 r1 w' h2⟩
def rloglaw_walk.RV (R : Int → Int → World → Prop) (v : Value) (w : World) : Prop := match v with
  | .tuple ⟨[.int .i64 r0, .int .i64 r1]⟩ => R r0 r1 w
  | _ => False
theorem rloglaw_walk.RV_elim {R : Int → Int → World → Prop} {v : Value} {w : World} (h : rloglaw_walk.RV R v w) : ∃ r0 r1, Ending.returned v = .returned (.tuple #[.int .i64 r0, .int .i64 r1]) ∧ R r0 r1 w := by
  unfold rloglaw_walk.RV at h
  split at h
  · exact ⟨_, _, rfl, h⟩
  · exact h.elim
/-- e2e/rloglaw.Ground -/
def rloglaw_Ground.Call  (w : World) (R : Option Addr → Option Addr → World → Prop) : Prop :=
  Calls Try.prog 8 #[] w fun e w' => ∃ r_0 r_1, e = .returned (.agg #[.pointer r_0, .pointer r_1]) ∧ R r_0 r_1 w'
theorem rloglaw_Ground.Call.mono {w : World} {R R' : Option Addr → Option Addr → World → Prop} (h : rloglaw_Ground.Call w R) (hr : ∀ r_0 r_1 w', R r_0 r_1 w' → R' r_0 r_1 w') : rloglaw_Ground.Call w R' :=
  Calls.mono h fun e w' he => by
    obtain ⟨r_0, r_1, h1, h2⟩ := he
    exact ⟨r_0, r_1, h1, hr r_0 r_1 w' h2⟩
def rloglaw_Ground.RV (R : Option Addr → Option Addr → World → Prop) (v : Value) (w : World) : Prop := match v with
  | .agg ⟨[.pointer r_0, .pointer r_1]⟩ => R r_0 r_1 w
  | _ => False
theorem rloglaw_Ground.RV_elim {R : Option Addr → Option Addr → World → Prop} {v : Value} {w : World} (h : rloglaw_Ground.RV R v w) : ∃ r_0 r_1, Ending.returned v = .returned (.agg #[.pointer r_0, .pointer r_1]) ∧ R r_0 r_1 w := by
  unfold rloglaw_Ground.RV at h
  split at h
  · exact ⟨_, _, rfl, h⟩
  · exact h.elim
/-- e2e/rlog.New -/
def rlog_New.Call (st : Option Addr) (w : World) (R : Option Addr → World → Prop) : Prop :=
  Calls Try.prog 9 #[.pointer st] w fun e w' => ∃ r, e = .returned (.pointer r) ∧ R r w'
theorem rlog_New.Call.mono {st} {w : World} {R R' : Option Addr → World → Prop} (h : rlog_New.Call st w R) (hr : ∀ r w', R r w' → R' r w') : rlog_New.Call st w R' :=
  Calls.mono h fun e w' he => by
    obtain ⟨r, h1, h2⟩ := he
    exact ⟨r, h1, hr r w' h2⟩
def rlog_New.RV (R : Option Addr → World → Prop) (v : Value) (w : World) : Prop := match v with
  | .pointer r => R r w
  | _ => False
theorem rlog_New.RV_elim {R : Option Addr → World → Prop} {v : Value} {w : World} (h : rlog_New.RV R v w) : ∃ r, Ending.returned v = .returned (.pointer r) ∧ R r w := by
  unfold rlog_New.RV at h
  split at h
  · exact ⟨_, rfl, h⟩
  · exact h.elim
/-- e2e/rlogm.New -/
def rlogm_New.Call  (w : World) (R : Option Addr → World → Prop) : Prop :=
  Calls Try.prog 10 #[] w fun e w' => ∃ r, e = .returned (.pointer r) ∧ R r w'
theorem rlogm_New.Call.mono {w : World} {R R' : Option Addr → World → Prop} (h : rlogm_New.Call w R) (hr : ∀ r w', R r w' → R' r w') : rlogm_New.Call w R' :=
  Calls.mono h fun e w' he => by
    obtain ⟨r, h1, h2⟩ := he
    exact ⟨r, h1, hr r w' h2⟩
def rlogm_New.RV (R : Option Addr → World → Prop) (v : Value) (w : World) : Prop := match v with
  | .pointer r => R r w
  | _ => False
theorem rlogm_New.RV_elim {R : Option Addr → World → Prop} {v : Value} {w : World} (h : rlogm_New.RV R v w) : ∃ r, Ending.returned v = .returned (.pointer r) ∧ R r w := by
  unfold rlogm_New.RV at h
  split at h
  · exact ⟨_, rfl, h⟩
  · exact h.elim
/-- e2e/rloglaw.Steps -/
def rloglaw_Steps.Call (b_0 b_1 : Option Addr) (w : World) (R : Int → World → Prop) : Prop :=
  Calls Try.prog 11 #[.agg #[.pointer b_0, .pointer b_1]] w fun e w' => ∃ r, e = .returned (.int .i64 r) ∧ R r w'
theorem rloglaw_Steps.Call.mono {b_0 b_1} {w : World} {R R' : Int → World → Prop} (h : rloglaw_Steps.Call b_0 b_1 w R) (hr : ∀ r w', R r w' → R' r w') : rloglaw_Steps.Call b_0 b_1 w R' :=
  Calls.mono h fun e w' he => by
    obtain ⟨r, h1, h2⟩ := he
    exact ⟨r, h1, hr r w' h2⟩
def rloglaw_Steps.RV (R : Int → World → Prop) (v : Value) (w : World) : Prop := match v with
  | .int .i64 r => R r w
  | _ => False
theorem rloglaw_Steps.RV_elim {R : Int → World → Prop} {v : Value} {w : World} (h : rloglaw_Steps.RV R v w) : ∃ r, Ending.returned v = .returned (.int .i64 r) ∧ R r w := by
  unfold rloglaw_Steps.RV at h
  split at h
  · exact ⟨_, rfl, h⟩
  · exact h.elim
/-- e2e/rloglaw.Seen -/
def rloglaw_Seen.Call (x m0 b_0 b_1 : Option Addr) (n : Int) (w : World) (R : Bool → World → Prop) : Prop :=
  Calls Try.prog 12 #[.pointer x, .pointer m0, .agg #[.pointer b_0, .pointer b_1], .int .i64 n] w fun e w' => ∃ r, e = .returned (.bool r) ∧ R r w'
theorem rloglaw_Seen.Call.mono {x m0 b_0 b_1 n} {w : World} {R R' : Bool → World → Prop} (h : rloglaw_Seen.Call x m0 b_0 b_1 n w R) (hr : ∀ r w', R r w' → R' r w') : rloglaw_Seen.Call x m0 b_0 b_1 n w R' :=
  Calls.mono h fun e w' he => by
    obtain ⟨r, h1, h2⟩ := he
    exact ⟨r, h1, hr r w' h2⟩
def rloglaw_Seen.RV (R : Bool → World → Prop) (v : Value) (w : World) : Prop := match v with
  | .bool r => R r w
  | _ => False
theorem rloglaw_Seen.RV_elim {R : Bool → World → Prop} {v : Value} {w : World} (h : rloglaw_Seen.RV R v w) : ∃ r, Ending.returned v = .returned (.bool r) ∧ R r w := by
  unfold rloglaw_Seen.RV at h
  split at h
  · exact ⟨_, rfl, h⟩
  · exact h.elim
/-- e2e/rloglaw.Mark -/
def rloglaw_Mark.Call (b_0 b_1 : Option Addr) (w : World) (R : World → Prop) : Prop :=
  Calls Try.prog 13 #[.agg #[.pointer b_0, .pointer b_1]] w fun e w' => e = .returned (.tuple #[]) ∧ R w'
theorem rloglaw_Mark.Call.mono {b_0 b_1} {w : World} {R R' : World → Prop} (h : rloglaw_Mark.Call b_0 b_1 w R) (hr : ∀ w', R w' → R'  w') : rloglaw_Mark.Call b_0 b_1 w R' :=
  Calls.mono h fun e w' he => by
    obtain ⟨h1, h2⟩ := he
    exact ⟨h1, hr  w' h2⟩
def rloglaw_Mark.RV (R : World → Prop) (v : Value) (w : World) : Prop := match v with
  | .tuple ⟨[]⟩ => R w
  | _ => False
theorem rloglaw_Mark.RV_elim {R : World → Prop} {v : Value} {w : World} (h : rloglaw_Mark.RV R v w) : Ending.returned v = .returned (.tuple #[]) ∧ R w := by
  unfold rloglaw_Mark.RV at h
  split at h
  · exact ⟨rfl, h⟩
  · exact h.elim
/-- (*e2e/rlogm.Log).Mark -/
def rlogm_Log_Mark.Call (l : Option Addr) (w : World) (R : World → Prop) : Prop :=
  Calls Try.prog 14 #[.pointer l] w fun e w' => e = .returned (.tuple #[]) ∧ R w'
theorem rlogm_Log_Mark.Call.mono {l} {w : World} {R R' : World → Prop} (h : rlogm_Log_Mark.Call l w R) (hr : ∀ w', R w' → R'  w') : rlogm_Log_Mark.Call l w R' :=
  Calls.mono h fun e w' he => by
    obtain ⟨h1, h2⟩ := he
    exact ⟨h1, hr  w' h2⟩
def rlogm_Log_Mark.RV (R : World → Prop) (v : Value) (w : World) : Prop := match v with
  | .tuple ⟨[]⟩ => R w
  | _ => False
theorem rlogm_Log_Mark.RV_elim {R : World → Prop} {v : Value} {w : World} (h : rlogm_Log_Mark.RV R v w) : Ending.returned v = .returned (.tuple #[]) ∧ R w := by
  unfold rlogm_Log_Mark.RV at h
  split at h
  · exact ⟨rfl, h⟩
  · exact h.elim
/-- e2e/rloglaw.Play -/
def rloglaw_Play.Call (x m0 : Option Addr) (o_0 o_1 o_2 o_3 : Int) (o_4 o_5 : ByteArray) (w : World) (R : Bool → World → Prop) : Prop :=
  Calls Try.prog 15 #[.pointer x, .pointer m0, .agg #[.int .i64 o_0, .int .i64 o_1, .int .i64 o_2, .int .i64 o_3, .string o_4, .string o_5]] w fun e w' => ∃ r, e = .returned (.bool r) ∧ R r w'
theorem rloglaw_Play.Call.mono {x m0 o_0 o_1 o_2 o_3 o_4 o_5} {w : World} {R R' : Bool → World → Prop} (h : rloglaw_Play.Call x m0 o_0 o_1 o_2 o_3 o_4 o_5 w R) (hr : ∀ r w', R r w' → R' r w') : rloglaw_Play.Call x m0 o_0 o_1 o_2 o_3 o_4 o_5 w R' :=
  Calls.mono h fun e w' he => by
    obtain ⟨r, h1, h2⟩ := he
    exact ⟨r, h1, hr r w' h2⟩
def rloglaw_Play.RV (R : Bool → World → Prop) (v : Value) (w : World) : Prop := match v with
  | .bool r => R r w
  | _ => False
theorem rloglaw_Play.RV_elim {R : Bool → World → Prop} {v : Value} {w : World} (h : rloglaw_Play.RV R v w) : ∃ r, Ending.returned v = .returned (.bool r) ∧ R r w := by
  unfold rloglaw_Play.RV at h
  split at h
  · exact ⟨_, rfl, h⟩
  · exact h.elim
/-- e2e/rloglaw.Idle -/
def rloglaw_Idle.Call (b_0 b_1 m0 : Option Addr) (w : World) (R : Bool → World → Prop) : Prop :=
  Calls Try.prog 16 #[.agg #[.pointer b_0, .pointer b_1], .pointer m0] w fun e w' => ∃ r, e = .returned (.bool r) ∧ R r w'
theorem rloglaw_Idle.Call.mono {b_0 b_1 m0} {w : World} {R R' : Bool → World → Prop} (h : rloglaw_Idle.Call b_0 b_1 m0 w R) (hr : ∀ r w', R r w' → R' r w') : rloglaw_Idle.Call b_0 b_1 m0 w R' :=
  Calls.mono h fun e w' he => by
    obtain ⟨r, h1, h2⟩ := he
    exact ⟨r, h1, hr r w' h2⟩
def rloglaw_Idle.RV (R : Bool → World → Prop) (v : Value) (w : World) : Prop := match v with
  | .bool r => R r w
  | _ => False
theorem rloglaw_Idle.RV_elim {R : Bool → World → Prop} {v : Value} {w : World} (h : rloglaw_Idle.RV R v w) : ∃ r, Ending.returned v = .returned (.bool r) ∧ R r w := by
  unfold rloglaw_Idle.RV at h
  split at h
  · exact ⟨_, rfl, h⟩
  · exact h.elim
/-- e2e/rloglaw.After -/
def rloglaw_After.Call (b_0 b_1 : Option Addr) (k : Int) (w : World) (R : Option Addr → Option Addr → World → Prop) : Prop :=
  Calls Try.prog 17 #[.agg #[.pointer b_0, .pointer b_1], .int .i64 k] w fun e w' => ∃ r_0 r_1, e = .returned (.agg #[.pointer r_0, .pointer r_1]) ∧ R r_0 r_1 w'
theorem rloglaw_After.Call.mono {b_0 b_1 k} {w : World} {R R' : Option Addr → Option Addr → World → Prop} (h : rloglaw_After.Call b_0 b_1 k w R) (hr : ∀ r_0 r_1 w', R r_0 r_1 w' → R' r_0 r_1 w') : rloglaw_After.Call b_0 b_1 k w R' :=
  Calls.mono h fun e w' he => by
    obtain ⟨r_0, r_1, h1, h2⟩ := he
    exact ⟨r_0, r_1, h1, hr r_0 r_1 w' h2⟩
def rloglaw_After.RV (R : Option Addr → Option Addr → World → Prop) (v : Value) (w : World) : Prop := match v with
  | .agg ⟨[.pointer r_0, .pointer r_1]⟩ => R r_0 r_1 w
  | _ => False
theorem rloglaw_After.RV_elim {R : Option Addr → Option Addr → World → Prop} {v : Value} {w : World} (h : rloglaw_After.RV R v w) : ∃ r_0 r_1, Ending.returned v = .returned (.agg #[.pointer r_0, .pointer r_1]) ∧ R r_0 r_1 w := by
  unfold rloglaw_After.RV at h
  split at h
  · exact ⟨_, _, rfl, h⟩
  · exact h.elim
/-- e2e/rlog.Sound -/
def rlog_Sound.Call (st : Option Addr) (w : World) (R : ByteArray → World → Prop) : Prop :=
  Calls Try.prog 18 #[.pointer st] w fun e w' => ∃ r, e = .returned (.string r) ∧ R r w'
theorem rlog_Sound.Call.mono {st} {w : World} {R R' : ByteArray → World → Prop} (h : rlog_Sound.Call st w R) (hr : ∀ r w', R r w' → R' r w') : rlog_Sound.Call st w R' :=
  Calls.mono h fun e w' he => by
    obtain ⟨r, h1, h2⟩ := he
    exact ⟨r, h1, hr r w' h2⟩
def rlog_Sound.RV (R : ByteArray → World → Prop) (v : Value) (w : World) : Prop := match v with
  | .string r => R r w
  | _ => False
theorem rlog_Sound.RV_elim {R : ByteArray → World → Prop} {v : Value} {w : World} (h : rlog_Sound.RV R v w) : ∃ r, Ending.returned v = .returned (.string r) ∧ R r w := by
  unfold rlog_Sound.RV at h
  split at h
  · exact ⟨_, rfl, h⟩
  · exact h.elim
/-- e2e/rlog.Open -/
def rlog_Open.Call (st : Option Addr) (w : World) (R : Option Addr → World → Prop) : Prop :=
  Calls Try.prog 19 #[.pointer st] w fun e w' => ∃ r, e = .returned (.pointer r) ∧ R r w'
theorem rlog_Open.Call.mono {st} {w : World} {R R' : Option Addr → World → Prop} (h : rlog_Open.Call st w R) (hr : ∀ r w', R r w' → R' r w') : rlog_Open.Call st w R' :=
  Calls.mono h fun e w' he => by
    obtain ⟨r, h1, h2⟩ := he
    exact ⟨r, h1, hr r w' h2⟩
def rlog_Open.RV (R : Option Addr → World → Prop) (v : Value) (w : World) : Prop := match v with
  | .pointer r => R r w
  | _ => False
theorem rlog_Open.RV_elim {R : Option Addr → World → Prop} {v : Value} {w : World} (h : rlog_Open.RV R v w) : ∃ r, Ending.returned v = .returned (.pointer r) ∧ R r w := by
  unfold rlog_Open.RV at h
  split at h
  · exact ⟨_, rfl, h⟩
  · exact h.elim
/-- (*e2e/rlog.Log).Check -/
def rlog_Log_Check.Call (l : Option Addr) (w : World) (R : ByteArray → World → Prop) : Prop :=
  Calls Try.prog 20 #[.pointer l] w fun e w' => ∃ r, e = .returned (.string r) ∧ R r w'
theorem rlog_Log_Check.Call.mono {l} {w : World} {R R' : ByteArray → World → Prop} (h : rlog_Log_Check.Call l w R) (hr : ∀ r w', R r w' → R' r w') : rlog_Log_Check.Call l w R' :=
  Calls.mono h fun e w' he => by
    obtain ⟨r, h1, h2⟩ := he
    exact ⟨r, h1, hr r w' h2⟩
def rlog_Log_Check.RV (R : ByteArray → World → Prop) (v : Value) (w : World) : Prop := match v with
  | .string r => R r w
  | _ => False
theorem rlog_Log_Check.RV_elim {R : ByteArray → World → Prop} {v : Value} {w : World} (h : rlog_Log_Check.RV R v w) : ∃ r, Ending.returned v = .returned (.string r) ∧ R r w := by
  unfold rlog_Log_Check.RV at h
  split at h
  · exact ⟨_, rfl, h⟩
  · exact h.elim
/-- e2e/rloglaw.Match -/
def rloglaw_Match.Call (x m0 : Option Addr) (w : World) (R : Int → World → Prop) : Prop :=
  Calls Try.prog 21 #[.pointer x, .pointer m0] w fun e w' => ∃ r, e = .returned (.int .i64 r) ∧ R r w'
theorem rloglaw_Match.Call.mono {x m0} {w : World} {R R' : Int → World → Prop} (h : rloglaw_Match.Call x m0 w R) (hr : ∀ r w', R r w' → R' r w') : rloglaw_Match.Call x m0 w R' :=
  Calls.mono h fun e w' he => by
    obtain ⟨r, h1, h2⟩ := he
    exact ⟨r, h1, hr r w' h2⟩
def rloglaw_Match.RV (R : Int → World → Prop) (v : Value) (w : World) : Prop := match v with
  | .int .i64 r => R r w
  | _ => False
theorem rloglaw_Match.RV_elim {R : Int → World → Prop} {v : Value} {w : World} (h : rloglaw_Match.RV R v w) : ∃ r, Ending.returned v = .returned (.int .i64 r) ∧ R r w := by
  unfold rloglaw_Match.RV at h
  split at h
  · exact ⟨_, rfl, h⟩
  · exact h.elim
/-- (*e2e/rlogm.Log).Steps -/
def rlogm_Log_Steps.Call (l : Option Addr) (w : World) (R : Int → World → Prop) : Prop :=
  Calls Try.prog 22 #[.pointer l] w fun e w' => ∃ r, e = .returned (.int .i64 r) ∧ R r w'
theorem rlogm_Log_Steps.Call.mono {l} {w : World} {R R' : Int → World → Prop} (h : rlogm_Log_Steps.Call l w R) (hr : ∀ r w', R r w' → R' r w') : rlogm_Log_Steps.Call l w R' :=
  Calls.mono h fun e w' he => by
    obtain ⟨r, h1, h2⟩ := he
    exact ⟨r, h1, hr r w' h2⟩
def rlogm_Log_Steps.RV (R : Int → World → Prop) (v : Value) (w : World) : Prop := match v with
  | .int .i64 r => R r w
  | _ => False
theorem rlogm_Log_Steps.RV_elim {R : Int → World → Prop} {v : Value} {w : World} (h : rlogm_Log_Steps.RV R v w) : ∃ r, Ending.returned v = .returned (.int .i64 r) ∧ R r w := by
  unfold rlogm_Log_Steps.RV at h
  split at h
  · exact ⟨_, rfl, h⟩
  · exact h.elim
/-- (*e2e/rlogm.Log).After -/
def rlogm_Log_After.Call (l : Option Addr) (k : Int) (w : World) (R : Option Addr → World → Prop) : Prop :=
  Calls Try.prog 23 #[.pointer l, .int .i64 k] w fun e w' => ∃ r, e = .returned (.pointer r) ∧ R r w'
theorem rlogm_Log_After.Call.mono {l k} {w : World} {R R' : Option Addr → World → Prop} (h : rlogm_Log_After.Call l k w R) (hr : ∀ r w', R r w' → R' r w') : rlogm_Log_After.Call l k w R' :=
  Calls.mono h fun e w' he => by
    obtain ⟨r, h1, h2⟩ := he
    exact ⟨r, h1, hr r w' h2⟩
def rlogm_Log_After.RV (R : Option Addr → World → Prop) (v : Value) (w : World) : Prop := match v with
  | .pointer r => R r w
  | _ => False
theorem rlogm_Log_After.RV_elim {R : Option Addr → World → Prop} {v : Value} {w : World} (h : rlogm_Log_After.RV R v w) : ∃ r, Ending.returned v = .returned (.pointer r) ∧ R r w := by
  unfold rlogm_Log_After.RV at h
  split at h
  · exact ⟨_, rfl, h⟩
  · exact h.elim
/-- e2e/rloglaw.Alike -/
def rloglaw_Alike.Call (x m0 : Option Addr) (w : World) (R : Bool → World → Prop) : Prop :=
  Calls Try.prog 24 #[.pointer x, .pointer m0] w fun e w' => ∃ r, e = .returned (.bool r) ∧ R r w'
theorem rloglaw_Alike.Call.mono {x m0} {w : World} {R R' : Bool → World → Prop} (h : rloglaw_Alike.Call x m0 w R) (hr : ∀ r w', R r w' → R' r w') : rloglaw_Alike.Call x m0 w R' :=
  Calls.mono h fun e w' he => by
    obtain ⟨r, h1, h2⟩ := he
    exact ⟨r, h1, hr r w' h2⟩
def rloglaw_Alike.RV (R : Bool → World → Prop) (v : Value) (w : World) : Prop := match v with
  | .bool r => R r w
  | _ => False
theorem rloglaw_Alike.RV_elim {R : Bool → World → Prop} {v : Value} {w : World} (h : rloglaw_Alike.RV R v w) : ∃ r, Ending.returned v = .returned (.bool r) ∧ R r w := by
  unfold rloglaw_Alike.RV at h
  split at h
  · exact ⟨_, rfl, h⟩
  · exact h.elim
/-- e2e/diskm.New -/
def diskm_New.Call  (w : World) (R : Option Addr → World → Prop) : Prop :=
  Calls Try.prog 25 #[] w fun e w' => ∃ r, e = .returned (.pointer r) ∧ R r w'
theorem diskm_New.Call.mono {w : World} {R R' : Option Addr → World → Prop} (h : diskm_New.Call w R) (hr : ∀ r w', R r w' → R' r w') : diskm_New.Call w R' :=
  Calls.mono h fun e w' he => by
    obtain ⟨r, h1, h2⟩ := he
    exact ⟨r, h1, hr r w' h2⟩
def diskm_New.RV (R : Option Addr → World → Prop) (v : Value) (w : World) : Prop := match v with
  | .pointer r => R r w
  | _ => False
theorem diskm_New.RV_elim {R : Option Addr → World → Prop} {v : Value} {w : World} (h : diskm_New.RV R v w) : ∃ r, Ending.returned v = .returned (.pointer r) ∧ R r w := by
  unfold diskm_New.RV at h
  split at h
  · exact ⟨_, rfl, h⟩
  · exact h.elim
/-- e2e/store.Open -/
def store_Open.Call (d : Option Addr) (w : World) (R : Option Addr → World → Prop) : Prop :=
  Calls Try.prog 26 #[.pointer d] w fun e w' => ∃ r, e = .returned (.pointer r) ∧ R r w'
theorem store_Open.Call.mono {d} {w : World} {R R' : Option Addr → World → Prop} (h : store_Open.Call d w R) (hr : ∀ r w', R r w' → R' r w') : store_Open.Call d w R' :=
  Calls.mono h fun e w' he => by
    obtain ⟨r, h1, h2⟩ := he
    exact ⟨r, h1, hr r w' h2⟩
def store_Open.RV (R : Option Addr → World → Prop) (v : Value) (w : World) : Prop := match v with
  | .pointer r => R r w
  | _ => False
theorem store_Open.RV_elim {R : Option Addr → World → Prop} {v : Value} {w : World} (h : store_Open.RV R v w) : ∃ r, Ending.returned v = .returned (.pointer r) ∧ R r w := by
  unfold store_Open.RV at h
  split at h
  · exact ⟨_, rfl, h⟩
  · exact h.elim
/-- (*e2e/rlogm.state).clone -/
def rlogm_state_clone.Call (s : Option Addr) (w : World) (R : Option Addr → World → Prop) : Prop :=
  Calls Try.prog 27 #[.pointer s] w fun e w' => ∃ r, e = .returned (.pointer r) ∧ R r w'
theorem rlogm_state_clone.Call.mono {s} {w : World} {R R' : Option Addr → World → Prop} (h : rlogm_state_clone.Call s w R) (hr : ∀ r w', R r w' → R' r w') : rlogm_state_clone.Call s w R' :=
  Calls.mono h fun e w' he => by
    obtain ⟨r, h1, h2⟩ := he
    exact ⟨r, h1, hr r w' h2⟩
def rlogm_state_clone.RV (R : Option Addr → World → Prop) (v : Value) (w : World) : Prop := match v with
  | .pointer r => R r w
  | _ => False
theorem rlogm_state_clone.RV_elim {R : Option Addr → World → Prop} {v : Value} {w : World} (h : rlogm_state_clone.RV R v w) : ∃ r, Ending.returned v = .returned (.pointer r) ∧ R r w := by
  unfold rlogm_state_clone.RV at h
  split at h
  · exact ⟨_, rfl, h⟩
  · exact h.elim
/-- (*e2e/diskm.Disk).Steps -/
def diskm_Disk_Steps.Call (d : Option Addr) (w : World) (R : Int → World → Prop) : Prop :=
  Calls Try.prog 28 #[.pointer d] w fun e w' => ∃ r, e = .returned (.int .i64 r) ∧ R r w'
theorem diskm_Disk_Steps.Call.mono {d} {w : World} {R R' : Int → World → Prop} (h : diskm_Disk_Steps.Call d w R) (hr : ∀ r w', R r w' → R' r w') : diskm_Disk_Steps.Call d w R' :=
  Calls.mono h fun e w' he => by
    obtain ⟨r, h1, h2⟩ := he
    exact ⟨r, h1, hr r w' h2⟩
def diskm_Disk_Steps.RV (R : Int → World → Prop) (v : Value) (w : World) : Prop := match v with
  | .int .i64 r => R r w
  | _ => False
theorem diskm_Disk_Steps.RV_elim {R : Int → World → Prop} {v : Value} {w : World} (h : diskm_Disk_Steps.RV R v w) : ∃ r, Ending.returned v = .returned (.int .i64 r) ∧ R r w := by
  unfold diskm_Disk_Steps.RV at h
  split at h
  · exact ⟨_, rfl, h⟩
  · exact h.elim
/-- (*e2e/diskm.Disk).Mark -/
def diskm_Disk_Mark.Call (d : Option Addr) (w : World) (R : World → Prop) : Prop :=
  Calls Try.prog 29 #[.pointer d] w fun e w' => e = .returned (.tuple #[]) ∧ R w'
theorem diskm_Disk_Mark.Call.mono {d} {w : World} {R R' : World → Prop} (h : diskm_Disk_Mark.Call d w R) (hr : ∀ w', R w' → R'  w') : diskm_Disk_Mark.Call d w R' :=
  Calls.mono h fun e w' he => by
    obtain ⟨h1, h2⟩ := he
    exact ⟨h1, hr  w' h2⟩
def diskm_Disk_Mark.RV (R : World → Prop) (v : Value) (w : World) : Prop := match v with
  | .tuple ⟨[]⟩ => R w
  | _ => False
theorem diskm_Disk_Mark.RV_elim {R : World → Prop} {v : Value} {w : World} (h : diskm_Disk_Mark.RV R v w) : Ending.returned v = .returned (.tuple #[]) ∧ R w := by
  unfold diskm_Disk_Mark.RV at h
  split at h
  · exact ⟨rfl, h⟩
  · exact h.elim
/-- e2e/rloglaw.SameSetTerm -/
def rloglaw_SameSetTerm.Call (x m0 : Option Addr) (term vote : Int) (w : World) (R : Bool → World → Prop) : Prop :=
  Calls Try.prog 30 #[.pointer x, .pointer m0, .int .i64 term, .int .i64 vote] w fun e w' => ∃ r, e = .returned (.bool r) ∧ R r w'
theorem rloglaw_SameSetTerm.Call.mono {x m0 term vote} {w : World} {R R' : Bool → World → Prop} (h : rloglaw_SameSetTerm.Call x m0 term vote w R) (hr : ∀ r w', R r w' → R' r w') : rloglaw_SameSetTerm.Call x m0 term vote w R' :=
  Calls.mono h fun e w' he => by
    obtain ⟨r, h1, h2⟩ := he
    exact ⟨r, h1, hr r w' h2⟩
def rloglaw_SameSetTerm.RV (R : Bool → World → Prop) (v : Value) (w : World) : Prop := match v with
  | .bool r => R r w
  | _ => False
theorem rloglaw_SameSetTerm.RV_elim {R : Bool → World → Prop} {v : Value} {w : World} (h : rloglaw_SameSetTerm.RV R v w) : ∃ r, Ending.returned v = .returned (.bool r) ∧ R r w := by
  unfold rloglaw_SameSetTerm.RV at h
  split at h
  · exact ⟨_, rfl, h⟩
  · exact h.elim
/-- e2e/rloglaw.SameAppend -/
def rloglaw_SameAppend.Call (x m0 : Option Addr) (e_0 : Int) (e_1 : ByteArray) (w : World) (R : Bool → World → Prop) : Prop :=
  Calls Try.prog 31 #[.pointer x, .pointer m0, .agg #[.int .i64 e_0, .string e_1]] w fun e w' => ∃ r, e = .returned (.bool r) ∧ R r w'
theorem rloglaw_SameAppend.Call.mono {x m0 e_0 e_1} {w : World} {R R' : Bool → World → Prop} (h : rloglaw_SameAppend.Call x m0 e_0 e_1 w R) (hr : ∀ r w', R r w' → R' r w') : rloglaw_SameAppend.Call x m0 e_0 e_1 w R' :=
  Calls.mono h fun e w' he => by
    obtain ⟨r, h1, h2⟩ := he
    exact ⟨r, h1, hr r w' h2⟩
def rloglaw_SameAppend.RV (R : Bool → World → Prop) (v : Value) (w : World) : Prop := match v with
  | .bool r => R r w
  | _ => False
theorem rloglaw_SameAppend.RV_elim {R : Bool → World → Prop} {v : Value} {w : World} (h : rloglaw_SameAppend.RV R v w) : ∃ r, Ending.returned v = .returned (.bool r) ∧ R r w := by
  unfold rloglaw_SameAppend.RV at h
  split at h
  · exact ⟨_, rfl, h⟩
  · exact h.elim
/-- e2e/rloglaw.SameTruncate -/
def rloglaw_SameTruncate.Call (x m0 : Option Addr) (i : Int) (w : World) (R : Bool → World → Prop) : Prop :=
  Calls Try.prog 32 #[.pointer x, .pointer m0, .int .i64 i] w fun e w' => ∃ r, e = .returned (.bool r) ∧ R r w'
theorem rloglaw_SameTruncate.Call.mono {x m0 i} {w : World} {R R' : Bool → World → Prop} (h : rloglaw_SameTruncate.Call x m0 i w R) (hr : ∀ r w', R r w' → R' r w') : rloglaw_SameTruncate.Call x m0 i w R' :=
  Calls.mono h fun e w' he => by
    obtain ⟨r, h1, h2⟩ := he
    exact ⟨r, h1, hr r w' h2⟩
def rloglaw_SameTruncate.RV (R : Bool → World → Prop) (v : Value) (w : World) : Prop := match v with
  | .bool r => R r w
  | _ => False
theorem rloglaw_SameTruncate.RV_elim {R : Bool → World → Prop} {v : Value} {w : World} (h : rloglaw_SameTruncate.RV R v w) : ∃ r, Ending.returned v = .returned (.bool r) ∧ R r w := by
  unfold rloglaw_SameTruncate.RV at h
  split at h
  · exact ⟨_, rfl, h⟩
  · exact h.elim
/-- e2e/rloglaw.SameCompact -/
def rloglaw_SameCompact.Call (x m0 : Option Addr) (upTo : Int) (snap : ByteArray) (w : World) (R : Bool → World → Prop) : Prop :=
  Calls Try.prog 33 #[.pointer x, .pointer m0, .int .i64 upTo, .string snap] w fun e w' => ∃ r, e = .returned (.bool r) ∧ R r w'
theorem rloglaw_SameCompact.Call.mono {x m0 upTo snap} {w : World} {R R' : Bool → World → Prop} (h : rloglaw_SameCompact.Call x m0 upTo snap w R) (hr : ∀ r w', R r w' → R' r w') : rloglaw_SameCompact.Call x m0 upTo snap w R' :=
  Calls.mono h fun e w' he => by
    obtain ⟨r, h1, h2⟩ := he
    exact ⟨r, h1, hr r w' h2⟩
def rloglaw_SameCompact.RV (R : Bool → World → Prop) (v : Value) (w : World) : Prop := match v with
  | .bool r => R r w
  | _ => False
theorem rloglaw_SameCompact.RV_elim {R : Bool → World → Prop} {v : Value} {w : World} (h : rloglaw_SameCompact.RV R v w) : ∃ r, Ending.returned v = .returned (.bool r) ∧ R r w := by
  unfold rloglaw_SameCompact.RV at h
  split at h
  · exact ⟨_, rfl, h⟩
  · exact h.elim
/-- e2e/rloglaw.SameInstall -/
def rloglaw_SameInstall.Call (x m0 : Option Addr) (idx term : Int) (snap : ByteArray) (w : World) (R : Bool → World → Prop) : Prop :=
  Calls Try.prog 34 #[.pointer x, .pointer m0, .int .i64 idx, .int .i64 term, .string snap] w fun e w' => ∃ r, e = .returned (.bool r) ∧ R r w'
theorem rloglaw_SameInstall.Call.mono {x m0 idx term snap} {w : World} {R R' : Bool → World → Prop} (h : rloglaw_SameInstall.Call x m0 idx term snap w R) (hr : ∀ r w', R r w' → R' r w') : rloglaw_SameInstall.Call x m0 idx term snap w R' :=
  Calls.mono h fun e w' he => by
    obtain ⟨r, h1, h2⟩ := he
    exact ⟨r, h1, hr r w' h2⟩
def rloglaw_SameInstall.RV (R : Bool → World → Prop) (v : Value) (w : World) : Prop := match v with
  | .bool r => R r w
  | _ => False
theorem rloglaw_SameInstall.RV_elim {R : Bool → World → Prop} {v : Value} {w : World} (h : rloglaw_SameInstall.RV R v w) : ∃ r, Ending.returned v = .returned (.bool r) ∧ R r w := by
  unfold rloglaw_SameInstall.RV at h
  split at h
  · exact ⟨_, rfl, h⟩
  · exact h.elim
/-- e2e/rloglaw.SameAt -/
def rloglaw_SameAt.Call (x m0 : Option Addr) (i : Int) (w : World) (R : Bool → World → Prop) : Prop :=
  Calls Try.prog 35 #[.pointer x, .pointer m0, .int .i64 i] w fun e w' => ∃ r, e = .returned (.bool r) ∧ R r w'
theorem rloglaw_SameAt.Call.mono {x m0 i} {w : World} {R R' : Bool → World → Prop} (h : rloglaw_SameAt.Call x m0 i w R) (hr : ∀ r w', R r w' → R' r w') : rloglaw_SameAt.Call x m0 i w R' :=
  Calls.mono h fun e w' he => by
    obtain ⟨r, h1, h2⟩ := he
    exact ⟨r, h1, hr r w' h2⟩
def rloglaw_SameAt.RV (R : Bool → World → Prop) (v : Value) (w : World) : Prop := match v with
  | .bool r => R r w
  | _ => False
theorem rloglaw_SameAt.RV_elim {R : Bool → World → Prop} {v : Value} {w : World} (h : rloglaw_SameAt.RV R v w) : ∃ r, Ending.returned v = .returned (.bool r) ∧ R r w := by
  unfold rloglaw_SameAt.RV at h
  split at h
  · exact ⟨_, rfl, h⟩
  · exact h.elim
/-- e2e/rloglaw.SameTermAt -/
def rloglaw_SameTermAt.Call (x m0 : Option Addr) (i : Int) (w : World) (R : Bool → World → Prop) : Prop :=
  Calls Try.prog 36 #[.pointer x, .pointer m0, .int .i64 i] w fun e w' => ∃ r, e = .returned (.bool r) ∧ R r w'
theorem rloglaw_SameTermAt.Call.mono {x m0 i} {w : World} {R R' : Bool → World → Prop} (h : rloglaw_SameTermAt.Call x m0 i w R) (hr : ∀ r w', R r w' → R' r w') : rloglaw_SameTermAt.Call x m0 i w R' :=
  Calls.mono h fun e w' he => by
    obtain ⟨r, h1, h2⟩ := he
    exact ⟨r, h1, hr r w' h2⟩
def rloglaw_SameTermAt.RV (R : Bool → World → Prop) (v : Value) (w : World) : Prop := match v with
  | .bool r => R r w
  | _ => False
theorem rloglaw_SameTermAt.RV_elim {R : Bool → World → Prop} {v : Value} {w : World} (h : rloglaw_SameTermAt.RV R v w) : ∃ r, Ending.returned v = .returned (.bool r) ∧ R r w := by
  unfold rloglaw_SameTermAt.RV at h
  split at h
  · exact ⟨_, rfl, h⟩
  · exact h.elim
/-- e2e/rloglaw.SameTerm -/
def rloglaw_SameTerm.Call (x m0 : Option Addr) (w : World) (R : Bool → World → Prop) : Prop :=
  Calls Try.prog 37 #[.pointer x, .pointer m0] w fun e w' => ∃ r, e = .returned (.bool r) ∧ R r w'
theorem rloglaw_SameTerm.Call.mono {x m0} {w : World} {R R' : Bool → World → Prop} (h : rloglaw_SameTerm.Call x m0 w R) (hr : ∀ r w', R r w' → R' r w') : rloglaw_SameTerm.Call x m0 w R' :=
  Calls.mono h fun e w' he => by
    obtain ⟨r, h1, h2⟩ := he
    exact ⟨r, h1, hr r w' h2⟩
def rloglaw_SameTerm.RV (R : Bool → World → Prop) (v : Value) (w : World) : Prop := match v with
  | .bool r => R r w
  | _ => False
theorem rloglaw_SameTerm.RV_elim {R : Bool → World → Prop} {v : Value} {w : World} (h : rloglaw_SameTerm.RV R v w) : ∃ r, Ending.returned v = .returned (.bool r) ∧ R r w := by
  unfold rloglaw_SameTerm.RV at h
  split at h
  · exact ⟨_, rfl, h⟩
  · exact h.elim
/-- e2e/rloglaw.SameVote -/
def rloglaw_SameVote.Call (x m0 : Option Addr) (w : World) (R : Bool → World → Prop) : Prop :=
  Calls Try.prog 38 #[.pointer x, .pointer m0] w fun e w' => ∃ r, e = .returned (.bool r) ∧ R r w'
theorem rloglaw_SameVote.Call.mono {x m0} {w : World} {R R' : Bool → World → Prop} (h : rloglaw_SameVote.Call x m0 w R) (hr : ∀ r w', R r w' → R' r w') : rloglaw_SameVote.Call x m0 w R' :=
  Calls.mono h fun e w' he => by
    obtain ⟨r, h1, h2⟩ := he
    exact ⟨r, h1, hr r w' h2⟩
def rloglaw_SameVote.RV (R : Bool → World → Prop) (v : Value) (w : World) : Prop := match v with
  | .bool r => R r w
  | _ => False
theorem rloglaw_SameVote.RV_elim {R : Bool → World → Prop} {v : Value} {w : World} (h : rloglaw_SameVote.RV R v w) : ∃ r, Ending.returned v = .returned (.bool r) ∧ R r w := by
  unfold rloglaw_SameVote.RV at h
  split at h
  · exact ⟨_, rfl, h⟩
  · exact h.elim
/-- e2e/rloglaw.SameBase -/
def rloglaw_SameBase.Call (x m0 : Option Addr) (w : World) (R : Bool → World → Prop) : Prop :=
  Calls Try.prog 39 #[.pointer x, .pointer m0] w fun e w' => ∃ r, e = .returned (.bool r) ∧ R r w'
theorem rloglaw_SameBase.Call.mono {x m0} {w : World} {R R' : Bool → World → Prop} (h : rloglaw_SameBase.Call x m0 w R) (hr : ∀ r w', R r w' → R' r w') : rloglaw_SameBase.Call x m0 w R' :=
  Calls.mono h fun e w' he => by
    obtain ⟨r, h1, h2⟩ := he
    exact ⟨r, h1, hr r w' h2⟩
def rloglaw_SameBase.RV (R : Bool → World → Prop) (v : Value) (w : World) : Prop := match v with
  | .bool r => R r w
  | _ => False
theorem rloglaw_SameBase.RV_elim {R : Bool → World → Prop} {v : Value} {w : World} (h : rloglaw_SameBase.RV R v w) : ∃ r, Ending.returned v = .returned (.bool r) ∧ R r w := by
  unfold rloglaw_SameBase.RV at h
  split at h
  · exact ⟨_, rfl, h⟩
  · exact h.elim
/-- e2e/rloglaw.SameBaseTerm -/
def rloglaw_SameBaseTerm.Call (x m0 : Option Addr) (w : World) (R : Bool → World → Prop) : Prop :=
  Calls Try.prog 40 #[.pointer x, .pointer m0] w fun e w' => ∃ r, e = .returned (.bool r) ∧ R r w'
theorem rloglaw_SameBaseTerm.Call.mono {x m0} {w : World} {R R' : Bool → World → Prop} (h : rloglaw_SameBaseTerm.Call x m0 w R) (hr : ∀ r w', R r w' → R' r w') : rloglaw_SameBaseTerm.Call x m0 w R' :=
  Calls.mono h fun e w' he => by
    obtain ⟨r, h1, h2⟩ := he
    exact ⟨r, h1, hr r w' h2⟩
def rloglaw_SameBaseTerm.RV (R : Bool → World → Prop) (v : Value) (w : World) : Prop := match v with
  | .bool r => R r w
  | _ => False
theorem rloglaw_SameBaseTerm.RV_elim {R : Bool → World → Prop} {v : Value} {w : World} (h : rloglaw_SameBaseTerm.RV R v w) : ∃ r, Ending.returned v = .returned (.bool r) ∧ R r w := by
  unfold rloglaw_SameBaseTerm.RV at h
  split at h
  · exact ⟨_, rfl, h⟩
  · exact h.elim
/-- e2e/rloglaw.SameSnap -/
def rloglaw_SameSnap.Call (x m0 : Option Addr) (w : World) (R : Bool → World → Prop) : Prop :=
  Calls Try.prog 41 #[.pointer x, .pointer m0] w fun e w' => ∃ r, e = .returned (.bool r) ∧ R r w'
theorem rloglaw_SameSnap.Call.mono {x m0} {w : World} {R R' : Bool → World → Prop} (h : rloglaw_SameSnap.Call x m0 w R) (hr : ∀ r w', R r w' → R' r w') : rloglaw_SameSnap.Call x m0 w R' :=
  Calls.mono h fun e w' he => by
    obtain ⟨r, h1, h2⟩ := he
    exact ⟨r, h1, hr r w' h2⟩
def rloglaw_SameSnap.RV (R : Bool → World → Prop) (v : Value) (w : World) : Prop := match v with
  | .bool r => R r w
  | _ => False
theorem rloglaw_SameSnap.RV_elim {R : Bool → World → Prop} {v : Value} {w : World} (h : rloglaw_SameSnap.RV R v w) : ∃ r, Ending.returned v = .returned (.bool r) ∧ R r w := by
  unfold rloglaw_SameSnap.RV at h
  split at h
  · exact ⟨_, rfl, h⟩
  · exact h.elim
/-- e2e/rloglaw.SameLast -/
def rloglaw_SameLast.Call (x m0 : Option Addr) (w : World) (R : Bool → World → Prop) : Prop :=
  Calls Try.prog 42 #[.pointer x, .pointer m0] w fun e w' => ∃ r, e = .returned (.bool r) ∧ R r w'
theorem rloglaw_SameLast.Call.mono {x m0} {w : World} {R R' : Bool → World → Prop} (h : rloglaw_SameLast.Call x m0 w R) (hr : ∀ r w', R r w' → R' r w') : rloglaw_SameLast.Call x m0 w R' :=
  Calls.mono h fun e w' he => by
    obtain ⟨r, h1, h2⟩ := he
    exact ⟨r, h1, hr r w' h2⟩
def rloglaw_SameLast.RV (R : Bool → World → Prop) (v : Value) (w : World) : Prop := match v with
  | .bool r => R r w
  | _ => False
theorem rloglaw_SameLast.RV_elim {R : Bool → World → Prop} {v : Value} {w : World} (h : rloglaw_SameLast.RV R v w) : ∃ r, Ending.returned v = .returned (.bool r) ∧ R r w := by
  unfold rloglaw_SameLast.RV at h
  split at h
  · exact ⟨_, rfl, h⟩
  · exact h.elim
/-- (*e2e/diskm.Disk).After -/
def diskm_Disk_After.Call (d : Option Addr) (k : Int) (w : World) (R : Option Addr → World → Prop) : Prop :=
  Calls Try.prog 43 #[.pointer d, .int .i64 k] w fun e w' => ∃ r, e = .returned (.pointer r) ∧ R r w'
theorem diskm_Disk_After.Call.mono {d k} {w : World} {R R' : Option Addr → World → Prop} (h : diskm_Disk_After.Call d k w R) (hr : ∀ r w', R r w' → R' r w') : diskm_Disk_After.Call d k w R' :=
  Calls.mono h fun e w' he => by
    obtain ⟨r, h1, h2⟩ := he
    exact ⟨r, h1, hr r w' h2⟩
def diskm_Disk_After.RV (R : Option Addr → World → Prop) (v : Value) (w : World) : Prop := match v with
  | .pointer r => R r w
  | _ => False
theorem diskm_Disk_After.RV_elim {R : Option Addr → World → Prop} {v : Value} {w : World} (h : diskm_Disk_After.RV R v w) : ∃ r, Ending.returned v = .returned (.pointer r) ∧ R r w := by
  unfold diskm_Disk_After.RV at h
  split at h
  · exact ⟨_, rfl, h⟩
  · exact h.elim
/-- (*e2e/store.Store).Snap -/
def store_Store_Snap.Call (t : Option Addr) (w : World) (R : Int → Int → ByteArray → World → Prop) : Prop :=
  Calls Try.prog 44 #[.pointer t] w fun e w' => ∃ r0 r1 r2, e = .returned (.tuple #[.int .i64 r0, .int .i64 r1, .string r2]) ∧ R r0 r1 r2 w'
theorem store_Store_Snap.Call.mono {t} {w : World} {R R' : Int → Int → ByteArray → World → Prop} (h : store_Store_Snap.Call t w R) (hr : ∀ r0 r1 r2 w', R r0 r1 r2 w' → R' r0 r1 r2 w') : store_Store_Snap.Call t w R' :=
  Calls.mono h fun e w' he => by
    obtain ⟨r0, r1, r2, h1, h2⟩ := he
    exact ⟨r0, r1, r2, h1, hr r0 r1 r2 w' h2⟩
def store_Store_Snap.RV (R : Int → Int → ByteArray → World → Prop) (v : Value) (w : World) : Prop := match v with
  | .tuple ⟨[.int .i64 r0, .int .i64 r1, .string r2]⟩ => R r0 r1 r2 w
  | _ => False
theorem store_Store_Snap.RV_elim {R : Int → Int → ByteArray → World → Prop} {v : Value} {w : World} (h : store_Store_Snap.RV R v w) : ∃ r0 r1 r2, Ending.returned v = .returned (.tuple #[.int .i64 r0, .int .i64 r1, .string r2]) ∧ R r0 r1 r2 w := by
  unfold store_Store_Snap.RV at h
  split at h
  · exact ⟨_, _, _, rfl, h⟩
  · exact h.elim
/-- e2e/rlog.holds -/
def rlog_holds.Call (st : Option Addr) (i : Int) (w : World) (R : Bool → World → Prop) : Prop :=
  Calls Try.prog 45 #[.pointer st, .int .i64 i] w fun e w' => ∃ r, e = .returned (.bool r) ∧ R r w'
theorem rlog_holds.Call.mono {st i} {w : World} {R R' : Bool → World → Prop} (h : rlog_holds.Call st i w R) (hr : ∀ r w', R r w' → R' r w') : rlog_holds.Call st i w R' :=
  Calls.mono h fun e w' he => by
    obtain ⟨r, h1, h2⟩ := he
    exact ⟨r, h1, hr r w' h2⟩
def rlog_holds.RV (R : Bool → World → Prop) (v : Value) (w : World) : Prop := match v with
  | .bool r => R r w
  | _ => False
theorem rlog_holds.RV_elim {R : Bool → World → Prop} {v : Value} {w : World} (h : rlog_holds.RV R v w) : ∃ r, Ending.returned v = .returned (.bool r) ∧ R r w := by
  unfold rlog_holds.RV at h
  split at h
  · exact ⟨_, rfl, h⟩
  · exact h.elim
/-- (*e2e/store.Store).Rec -/
def store_Store_Rec.Call (t : Option Addr) (slot : Int) (w : World) (R : Int → Int → ByteArray → Int → World → Prop) : Prop :=
  Calls Try.prog 46 #[.pointer t, .int .i64 slot] w fun e w' => ∃ r0_0 r0_1 r0_2 r1, e = .returned (.tuple #[.agg #[.int .i64 r0_0, .int .i64 r0_1, .string r0_2], .int .i64 r1]) ∧ R r0_0 r0_1 r0_2 r1 w'
theorem store_Store_Rec.Call.mono {t slot} {w : World} {R R' : Int → Int → ByteArray → Int → World → Prop} (h : store_Store_Rec.Call t slot w R) (hr : ∀ r0_0 r0_1 r0_2 r1 w', R r0_0 r0_1 r0_2 r1 w' → R' r0_0 r0_1 r0_2 r1 w') : store_Store_Rec.Call t slot w R' :=
  Calls.mono h fun e w' he => by
    obtain ⟨r0_0, r0_1, r0_2, r1, h1, h2⟩ := he
    exact ⟨r0_0, r0_1, r0_2, r1, h1, hr r0_0 r0_1 r0_2 r1 w' h2⟩
def store_Store_Rec.RV (R : Int → Int → ByteArray → Int → World → Prop) (v : Value) (w : World) : Prop := match v with
  | .tuple ⟨[.agg ⟨[.int .i64 r0_0, .int .i64 r0_1, .string r0_2]⟩, .int .i64 r1]⟩ => R r0_0 r0_1 r0_2 r1 w
  | _ => False
theorem store_Store_Rec.RV_elim {R : Int → Int → ByteArray → Int → World → Prop} {v : Value} {w : World} (h : store_Store_Rec.RV R v w) : ∃ r0_0 r0_1 r0_2 r1, Ending.returned v = .returned (.tuple #[.agg #[.int .i64 r0_0, .int .i64 r0_1, .string r0_2], .int .i64 r1]) ∧ R r0_0 r0_1 r0_2 r1 w := by
  unfold store_Store_Rec.RV at h
  split at h
  · exact ⟨_, _, _, _, rfl, h⟩
  · exact h.elim
/-- e2e/rlog.slotOf -/
def rlog_slotOf.Call (i : Int) (w : World) (R : Int → World → Prop) : Prop :=
  Calls Try.prog 47 #[.int .i64 i] w fun e w' => ∃ r, e = .returned (.int .i64 r) ∧ R r w'
theorem rlog_slotOf.Call.mono {i} {w : World} {R R' : Int → World → Prop} (h : rlog_slotOf.Call i w R) (hr : ∀ r w', R r w' → R' r w') : rlog_slotOf.Call i w R' :=
  Calls.mono h fun e w' he => by
    obtain ⟨r, h1, h2⟩ := he
    exact ⟨r, h1, hr r w' h2⟩
def rlog_slotOf.RV (R : Int → World → Prop) (v : Value) (w : World) : Prop := match v with
  | .int .i64 r => R r w
  | _ => False
theorem rlog_slotOf.RV_elim {R : Int → World → Prop} {v : Value} {w : World} (h : rlog_slotOf.RV R v w) : ∃ r, Ending.returned v = .returned (.int .i64 r) ∧ R r w := by
  unfold rlog_slotOf.RV at h
  split at h
  · exact ⟨_, rfl, h⟩
  · exact h.elim
/-- (*e2e/store.Store).Meta -/
def store_Store_Meta.Call (t : Option Addr) (w : World) (R : Int → Int → World → Prop) : Prop :=
  Calls Try.prog 48 #[.pointer t] w fun e w' => ∃ r0 r1, e = .returned (.tuple #[.int .i64 r0, .int .i64 r1]) ∧ R r0 r1 w'
theorem store_Store_Meta.Call.mono {t} {w : World} {R R' : Int → Int → World → Prop} (h : store_Store_Meta.Call t w R) (hr : ∀ r0 r1 w', R r0 r1 w' → R' r0 r1 w') : store_Store_Meta.Call t w R' :=
  Calls.mono h fun e w' he => by
    obtain ⟨r0, r1, h1, h2⟩ := he
    exact ⟨r0, r1, h1, hr r0 r1 w' h2⟩
def store_Store_Meta.RV (R : Int → Int → World → Prop) (v : Value) (w : World) : Prop := match v with
  | .tuple ⟨[.int .i64 r0, .int .i64 r1]⟩ => R r0 r1 w
  | _ => False
theorem store_Store_Meta.RV_elim {R : Int → Int → World → Prop} {v : Value} {w : World} (h : store_Store_Meta.RV R v w) : ∃ r0 r1, Ending.returned v = .returned (.tuple #[.int .i64 r0, .int .i64 r1]) ∧ R r0 r1 w := by
  unfold store_Store_Meta.RV at h
  split at h
  · exact ⟨_, _, rfl, h⟩
  · exact h.elim
/-- (*e2e/rlog.Log).load -/
def rlog_Log_load.Call (l : Option Addr) (i : Int) (w : World) (R : Bool → World → Prop) : Prop :=
  Calls Try.prog 49 #[.pointer l, .int .i64 i] w fun e w' => ∃ r, e = .returned (.bool r) ∧ R r w'
theorem rlog_Log_load.Call.mono {l i} {w : World} {R R' : Bool → World → Prop} (h : rlog_Log_load.Call l i w R) (hr : ∀ r w', R r w' → R' r w') : rlog_Log_load.Call l i w R' :=
  Calls.mono h fun e w' he => by
    obtain ⟨r, h1, h2⟩ := he
    exact ⟨r, h1, hr r w' h2⟩
def rlog_Log_load.RV (R : Bool → World → Prop) (v : Value) (w : World) : Prop := match v with
  | .bool r => R r w
  | _ => False
theorem rlog_Log_load.RV_elim {R : Bool → World → Prop} {v : Value} {w : World} (h : rlog_Log_load.RV R v w) : ∃ r, Ending.returned v = .returned (.bool r) ∧ R r w := by
  unfold rlog_Log_load.RV at h
  split at h
  · exact ⟨_, rfl, h⟩
  · exact h.elim
/-- (*e2e/rlog.Log).sweep -/
def rlog_Log_sweep.Call (l : Option Addr) (w : World) (R : World → Prop) : Prop :=
  Calls Try.prog 50 #[.pointer l] w fun e w' => e = .returned (.tuple #[]) ∧ R w'
theorem rlog_Log_sweep.Call.mono {l} {w : World} {R R' : World → Prop} (h : rlog_Log_sweep.Call l w R) (hr : ∀ w', R w' → R'  w') : rlog_Log_sweep.Call l w R' :=
  Calls.mono h fun e w' he => by
    obtain ⟨h1, h2⟩ := he
    exact ⟨h1, hr  w' h2⟩
def rlog_Log_sweep.RV (R : World → Prop) (v : Value) (w : World) : Prop := match v with
  | .tuple ⟨[]⟩ => R w
  | _ => False
theorem rlog_Log_sweep.RV_elim {R : World → Prop} {v : Value} {w : World} (h : rlog_Log_sweep.RV R v w) : Ending.returned v = .returned (.tuple #[]) ∧ R w := by
  unfold rlog_Log_sweep.RV at h
  split at h
  · exact ⟨rfl, h⟩
  · exact h.elim
/-- (*e2e/rlog.Log).indexIn -/
def rlog_Log_indexIn.Call (l : Option Addr) (s : Int) (w : World) (R : Int → World → Prop) : Prop :=
  Calls Try.prog 51 #[.pointer l, .int .i64 s] w fun e w' => ∃ r, e = .returned (.int .i64 r) ∧ R r w'
theorem rlog_Log_indexIn.Call.mono {l s} {w : World} {R R' : Int → World → Prop} (h : rlog_Log_indexIn.Call l s w R) (hr : ∀ r w', R r w' → R' r w') : rlog_Log_indexIn.Call l s w R' :=
  Calls.mono h fun e w' he => by
    obtain ⟨r, h1, h2⟩ := he
    exact ⟨r, h1, hr r w' h2⟩
def rlog_Log_indexIn.RV (R : Int → World → Prop) (v : Value) (w : World) : Prop := match v with
  | .int .i64 r => R r w
  | _ => False
theorem rlog_Log_indexIn.RV_elim {R : Int → World → Prop} {v : Value} {w : World} (h : rlog_Log_indexIn.RV R v w) : ∃ r, Ending.returned v = .returned (.int .i64 r) ∧ R r w := by
  unfold rlog_Log_indexIn.RV at h
  split at h
  · exact ⟨_, rfl, h⟩
  · exact h.elim
/-- (*e2e/rlogm.Log).Base -/
def rlogm_Log_Base.Call (l : Option Addr) (w : World) (R : Int → World → Prop) : Prop :=
  Calls Try.prog 52 #[.pointer l] w fun e w' => ∃ r, e = .returned (.int .i64 r) ∧ R r w'
theorem rlogm_Log_Base.Call.mono {l} {w : World} {R R' : Int → World → Prop} (h : rlogm_Log_Base.Call l w R) (hr : ∀ r w', R r w' → R' r w') : rlogm_Log_Base.Call l w R' :=
  Calls.mono h fun e w' he => by
    obtain ⟨r, h1, h2⟩ := he
    exact ⟨r, h1, hr r w' h2⟩
def rlogm_Log_Base.RV (R : Int → World → Prop) (v : Value) (w : World) : Prop := match v with
  | .int .i64 r => R r w
  | _ => False
theorem rlogm_Log_Base.RV_elim {R : Int → World → Prop} {v : Value} {w : World} (h : rlogm_Log_Base.RV R v w) : ∃ r, Ending.returned v = .returned (.int .i64 r) ∧ R r w := by
  unfold rlogm_Log_Base.RV at h
  split at h
  · exact ⟨_, rfl, h⟩
  · exact h.elim
/-- (*e2e/rlogm.Log).Last -/
def rlogm_Log_Last.Call (l : Option Addr) (w : World) (R : Int → World → Prop) : Prop :=
  Calls Try.prog 53 #[.pointer l] w fun e w' => ∃ r, e = .returned (.int .i64 r) ∧ R r w'
theorem rlogm_Log_Last.Call.mono {l} {w : World} {R R' : Int → World → Prop} (h : rlogm_Log_Last.Call l w R) (hr : ∀ r w', R r w' → R' r w') : rlogm_Log_Last.Call l w R' :=
  Calls.mono h fun e w' he => by
    obtain ⟨r, h1, h2⟩ := he
    exact ⟨r, h1, hr r w' h2⟩
def rlogm_Log_Last.RV (R : Int → World → Prop) (v : Value) (w : World) : Prop := match v with
  | .int .i64 r => R r w
  | _ => False
theorem rlogm_Log_Last.RV_elim {R : Int → World → Prop} {v : Value} {w : World} (h : rlogm_Log_Last.RV R v w) : ∃ r, Ending.returned v = .returned (.int .i64 r) ∧ R r w := by
  unfold rlogm_Log_Last.RV at h
  split at h
  · exact ⟨_, rfl, h⟩
  · exact h.elim
/-- e2e/diskm.blocks -/
def diskm_blocks.Call (a_b : Option Addr) (a_l a_c : Nat) (w : World) (R : Option Addr → Nat → Nat → World → Prop) : Prop :=
  Calls Try.prog 54 #[.slice a_b a_l a_c] w fun e w' => ∃ r_b r_l r_c, e = .returned (.slice r_b r_l r_c) ∧ R r_b r_l r_c w'
theorem diskm_blocks.Call.mono {a_b a_l a_c} {w : World} {R R' : Option Addr → Nat → Nat → World → Prop} (h : diskm_blocks.Call a_b a_l a_c w R) (hr : ∀ r_b r_l r_c w', R r_b r_l r_c w' → R' r_b r_l r_c w') : diskm_blocks.Call a_b a_l a_c w R' :=
  Calls.mono h fun e w' he => by
    obtain ⟨r_b, r_l, r_c, h1, h2⟩ := he
    exact ⟨r_b, r_l, r_c, h1, hr r_b r_l r_c w' h2⟩
def diskm_blocks.RV (R : Option Addr → Nat → Nat → World → Prop) (v : Value) (w : World) : Prop := match v with
  | .slice r_b r_l r_c => R r_b r_l r_c w
  | _ => False
theorem diskm_blocks.RV_elim {R : Option Addr → Nat → Nat → World → Prop} {v : Value} {w : World} (h : diskm_blocks.RV R v w) : ∃ r_b r_l r_c, Ending.returned v = .returned (.slice r_b r_l r_c) ∧ R r_b r_l r_c w := by
  unfold diskm_blocks.RV at h
  split at h
  · exact ⟨_, _, _, rfl, h⟩
  · exact h.elim
/-- (*e2e/store.Store).read -/
def store_Store_read.Call (t : Option Addr) (b : Int) (w : World) (R : ByteArray → World → Prop) : Prop :=
  Calls Try.prog 55 #[.pointer t, .int .i64 b] w fun e w' => ∃ r, e = .returned (.string r) ∧ R r w'
theorem store_Store_read.Call.mono {t b} {w : World} {R R' : ByteArray → World → Prop} (h : store_Store_read.Call t b w R) (hr : ∀ r w', R r w' → R' r w') : store_Store_read.Call t b w R' :=
  Calls.mono h fun e w' he => by
    obtain ⟨r, h1, h2⟩ := he
    exact ⟨r, h1, hr r w' h2⟩
def store_Store_read.RV (R : ByteArray → World → Prop) (v : Value) (w : World) : Prop := match v with
  | .string r => R r w
  | _ => False
theorem store_Store_read.RV_elim {R : ByteArray → World → Prop} {v : Value} {w : World} (h : store_Store_read.RV R v w) : ∃ r, Ending.returned v = .returned (.string r) ∧ R r w := by
  unfold store_Store_read.RV at h
  split at h
  · exact ⟨_, rfl, h⟩
  · exact h.elim
/-- e2e/store.decMeta -/
def store_decMeta.Call (b : ByteArray) (w : World) (R : Bool → Int → Int → Int → World → Prop) : Prop :=
  Calls Try.prog 56 #[.string b] w fun e w' => ∃ r_0 r_1 r_2 r_3, e = .returned (.agg #[.bool r_0, .int .i64 r_1, .int .i64 r_2, .int .i64 r_3]) ∧ R r_0 r_1 r_2 r_3 w'
theorem store_decMeta.Call.mono {b} {w : World} {R R' : Bool → Int → Int → Int → World → Prop} (h : store_decMeta.Call b w R) (hr : ∀ r_0 r_1 r_2 r_3 w', R r_0 r_1 r_2 r_3 w' → R' r_0 r_1 r_2 r_3 w') : store_decMeta.Call b w R' :=
  Calls.mono h fun e w' he => by
    obtain ⟨r_0, r_1, r_2, r_3, h1, h2⟩ := he
    exact ⟨r_0, r_1, r_2, r_3, h1, hr r_0 r_1 r_2 r_3 w' h2⟩
def store_decMeta.RV (R : Bool → Int → Int → Int → World → Prop) (v : Value) (w : World) : Prop := match v with
  | .agg ⟨[.bool r_0, .int .i64 r_1, .int .i64 r_2, .int .i64 r_3]⟩ => R r_0 r_1 r_2 r_3 w
  | _ => False
theorem store_decMeta.RV_elim {R : Bool → Int → Int → Int → World → Prop} {v : Value} {w : World} (h : store_decMeta.RV R v w) : ∃ r_0 r_1 r_2 r_3, Ending.returned v = .returned (.agg #[.bool r_0, .int .i64 r_1, .int .i64 r_2, .int .i64 r_3]) ∧ R r_0 r_1 r_2 r_3 w := by
  unfold store_decMeta.RV at h
  split at h
  · exact ⟨_, _, _, _, rfl, h⟩
  · exact h.elim
/-- e2e/store.decHead -/
def store_decHead.Call (b : ByteArray) (w : World) (R : Bool → Int → Int → Int → Int → Int → World → Prop) : Prop :=
  Calls Try.prog 57 #[.string b] w fun e w' => ∃ r_0 r_1 r_2 r_3 r_4 r_5, e = .returned (.agg #[.bool r_0, .int .i64 r_1, .int .i64 r_2, .int .i64 r_3, .int .i64 r_4, .int .i64 r_5]) ∧ R r_0 r_1 r_2 r_3 r_4 r_5 w'
theorem store_decHead.Call.mono {b} {w : World} {R R' : Bool → Int → Int → Int → Int → Int → World → Prop} (h : store_decHead.Call b w R) (hr : ∀ r_0 r_1 r_2 r_3 r_4 r_5 w', R r_0 r_1 r_2 r_3 r_4 r_5 w' → R' r_0 r_1 r_2 r_3 r_4 r_5 w') : store_decHead.Call b w R' :=
  Calls.mono h fun e w' he => by
    obtain ⟨r_0, r_1, r_2, r_3, r_4, r_5, h1, h2⟩ := he
    exact ⟨r_0, r_1, r_2, r_3, r_4, r_5, h1, hr r_0 r_1 r_2 r_3 r_4 r_5 w' h2⟩
def store_decHead.RV (R : Bool → Int → Int → Int → Int → Int → World → Prop) (v : Value) (w : World) : Prop := match v with
  | .agg ⟨[.bool r_0, .int .i64 r_1, .int .i64 r_2, .int .i64 r_3, .int .i64 r_4, .int .i64 r_5]⟩ => R r_0 r_1 r_2 r_3 r_4 r_5 w
  | _ => False
theorem store_decHead.RV_elim {R : Bool → Int → Int → Int → Int → Int → World → Prop} {v : Value} {w : World} (h : store_decHead.RV R v w) : ∃ r_0 r_1 r_2 r_3 r_4 r_5, Ending.returned v = .returned (.agg #[.bool r_0, .int .i64 r_1, .int .i64 r_2, .int .i64 r_3, .int .i64 r_4, .int .i64 r_5]) ∧ R r_0 r_1 r_2 r_3 r_4 r_5 w := by
  unfold store_decHead.RV at h
  split at h
  · exact ⟨_, _, _, _, _, _, rfl, h⟩
  · exact h.elim
/-- (*e2e/store.Store).area -/
def store_Store_area.Call (t : Option Addr) (a n : Int) (w : World) (R : ByteArray → World → Prop) : Prop :=
  Calls Try.prog 58 #[.pointer t, .int .i64 a, .int .i64 n] w fun e w' => ∃ r, e = .returned (.string r) ∧ R r w'
theorem store_Store_area.Call.mono {t a n} {w : World} {R R' : ByteArray → World → Prop} (h : store_Store_area.Call t a n w R) (hr : ∀ r w', R r w' → R' r w') : store_Store_area.Call t a n w R' :=
  Calls.mono h fun e w' he => by
    obtain ⟨r, h1, h2⟩ := he
    exact ⟨r, h1, hr r w' h2⟩
def store_Store_area.RV (R : ByteArray → World → Prop) (v : Value) (w : World) : Prop := match v with
  | .string r => R r w
  | _ => False
theorem store_Store_area.RV_elim {R : ByteArray → World → Prop} {v : Value} {w : World} (h : store_Store_area.RV R v w) : ∃ r, Ending.returned v = .returned (.string r) ∧ R r w := by
  unfold store_Store_area.RV at h
  split at h
  · exact ⟨_, rfl, h⟩
  · exact h.elim
/-- e2e/store.decRec -/
def store_decRec.Call (b : ByteArray) (w : World) (R : Int → Int → ByteArray → Bool → World → Prop) : Prop :=
  Calls Try.prog 59 #[.string b] w fun e w' => ∃ r0_0 r0_1 r0_2 r1, e = .returned (.tuple #[.agg #[.int .i64 r0_0, .int .i64 r0_1, .string r0_2], .bool r1]) ∧ R r0_0 r0_1 r0_2 r1 w'
theorem store_decRec.Call.mono {b} {w : World} {R R' : Int → Int → ByteArray → Bool → World → Prop} (h : store_decRec.Call b w R) (hr : ∀ r0_0 r0_1 r0_2 r1 w', R r0_0 r0_1 r0_2 r1 w' → R' r0_0 r0_1 r0_2 r1 w') : store_decRec.Call b w R' :=
  Calls.mono h fun e w' he => by
    obtain ⟨r0_0, r0_1, r0_2, r1, h1, h2⟩ := he
    exact ⟨r0_0, r0_1, r0_2, r1, h1, hr r0_0 r0_1 r0_2 r1 w' h2⟩
def store_decRec.RV (R : Int → Int → ByteArray → Bool → World → Prop) (v : Value) (w : World) : Prop := match v with
  | .tuple ⟨[.agg ⟨[.int .i64 r0_0, .int .i64 r0_1, .string r0_2]⟩, .bool r1]⟩ => R r0_0 r0_1 r0_2 r1 w
  | _ => False
theorem store_decRec.RV_elim {R : Int → Int → ByteArray → Bool → World → Prop} {v : Value} {w : World} (h : store_decRec.RV R v w) : ∃ r0_0 r0_1 r0_2 r1, Ending.returned v = .returned (.tuple #[.agg #[.int .i64 r0_0, .int .i64 r0_1, .string r0_2], .bool r1]) ∧ R r0_0 r0_1 r0_2 r1 w := by
  unfold store_decRec.RV at h
  split at h
  · exact ⟨_, _, _, _, rfl, h⟩
  · exact h.elim
/-- (*e2e/rlog.Log).SetTerm -/
def rlog_Log_SetTerm.Call (l : Option Addr) (term vote : Int) (w : World) (R : Int → World → Prop) : Prop :=
  Calls Try.prog 60 #[.pointer l, .int .i64 term, .int .i64 vote] w fun e w' => ∃ r, e = .returned (.int .i64 r) ∧ R r w'
theorem rlog_Log_SetTerm.Call.mono {l term vote} {w : World} {R R' : Int → World → Prop} (h : rlog_Log_SetTerm.Call l term vote w R) (hr : ∀ r w', R r w' → R' r w') : rlog_Log_SetTerm.Call l term vote w R' :=
  Calls.mono h fun e w' he => by
    obtain ⟨r, h1, h2⟩ := he
    exact ⟨r, h1, hr r w' h2⟩
def rlog_Log_SetTerm.RV (R : Int → World → Prop) (v : Value) (w : World) : Prop := match v with
  | .int .i64 r => R r w
  | _ => False
theorem rlog_Log_SetTerm.RV_elim {R : Int → World → Prop} {v : Value} {w : World} (h : rlog_Log_SetTerm.RV R v w) : ∃ r, Ending.returned v = .returned (.int .i64 r) ∧ R r w := by
  unfold rlog_Log_SetTerm.RV at h
  split at h
  · exact ⟨_, rfl, h⟩
  · exact h.elim
/-- (*e2e/rlogm.Log).SetTerm -/
def rlogm_Log_SetTerm.Call (l : Option Addr) (term vote : Int) (w : World) (R : Int → World → Prop) : Prop :=
  Calls Try.prog 61 #[.pointer l, .int .i64 term, .int .i64 vote] w fun e w' => ∃ r, e = .returned (.int .i64 r) ∧ R r w'
theorem rlogm_Log_SetTerm.Call.mono {l term vote} {w : World} {R R' : Int → World → Prop} (h : rlogm_Log_SetTerm.Call l term vote w R) (hr : ∀ r w', R r w' → R' r w') : rlogm_Log_SetTerm.Call l term vote w R' :=
  Calls.mono h fun e w' he => by
    obtain ⟨r, h1, h2⟩ := he
    exact ⟨r, h1, hr r w' h2⟩
def rlogm_Log_SetTerm.RV (R : Int → World → Prop) (v : Value) (w : World) : Prop := match v with
  | .int .i64 r => R r w
  | _ => False
theorem rlogm_Log_SetTerm.RV_elim {R : Int → World → Prop} {v : Value} {w : World} (h : rlogm_Log_SetTerm.RV R v w) : ∃ r, Ending.returned v = .returned (.int .i64 r) ∧ R r w := by
  unfold rlogm_Log_SetTerm.RV at h
  split at h
  · exact ⟨_, rfl, h⟩
  · exact h.elim
/-- (*e2e/rlog.Log).Append -/
def rlog_Log_Append.Call (l : Option Addr) (e_0 : Int) (e_1 : ByteArray) (w : World) (R : Int → World → Prop) : Prop :=
  Calls Try.prog 62 #[.pointer l, .agg #[.int .i64 e_0, .string e_1]] w fun e w' => ∃ r, e = .returned (.int .i64 r) ∧ R r w'
theorem rlog_Log_Append.Call.mono {l e_0 e_1} {w : World} {R R' : Int → World → Prop} (h : rlog_Log_Append.Call l e_0 e_1 w R) (hr : ∀ r w', R r w' → R' r w') : rlog_Log_Append.Call l e_0 e_1 w R' :=
  Calls.mono h fun e w' he => by
    obtain ⟨r, h1, h2⟩ := he
    exact ⟨r, h1, hr r w' h2⟩
def rlog_Log_Append.RV (R : Int → World → Prop) (v : Value) (w : World) : Prop := match v with
  | .int .i64 r => R r w
  | _ => False
theorem rlog_Log_Append.RV_elim {R : Int → World → Prop} {v : Value} {w : World} (h : rlog_Log_Append.RV R v w) : ∃ r, Ending.returned v = .returned (.int .i64 r) ∧ R r w := by
  unfold rlog_Log_Append.RV at h
  split at h
  · exact ⟨_, rfl, h⟩
  · exact h.elim
/-- (*e2e/rlogm.Log).Append -/
def rlogm_Log_Append.Call (l : Option Addr) (e_0 : Int) (e_1 : ByteArray) (w : World) (R : Int → World → Prop) : Prop :=
  Calls Try.prog 63 #[.pointer l, .agg #[.int .i64 e_0, .string e_1]] w fun e w' => ∃ r, e = .returned (.int .i64 r) ∧ R r w'
theorem rlogm_Log_Append.Call.mono {l e_0 e_1} {w : World} {R R' : Int → World → Prop} (h : rlogm_Log_Append.Call l e_0 e_1 w R) (hr : ∀ r w', R r w' → R' r w') : rlogm_Log_Append.Call l e_0 e_1 w R' :=
  Calls.mono h fun e w' he => by
    obtain ⟨r, h1, h2⟩ := he
    exact ⟨r, h1, hr r w' h2⟩
def rlogm_Log_Append.RV (R : Int → World → Prop) (v : Value) (w : World) : Prop := match v with
  | .int .i64 r => R r w
  | _ => False
theorem rlogm_Log_Append.RV_elim {R : Int → World → Prop} {v : Value} {w : World} (h : rlogm_Log_Append.RV R v w) : ∃ r, Ending.returned v = .returned (.int .i64 r) ∧ R r w := by
  unfold rlogm_Log_Append.RV at h
  split at h
  · exact ⟨_, rfl, h⟩
  · exact h.elim
/-- (*e2e/rlog.Log).TruncateFrom -/
def rlog_Log_TruncateFrom.Call (l : Option Addr) (i : Int) (w : World) (R : Int → World → Prop) : Prop :=
  Calls Try.prog 64 #[.pointer l, .int .i64 i] w fun e w' => ∃ r, e = .returned (.int .i64 r) ∧ R r w'
theorem rlog_Log_TruncateFrom.Call.mono {l i} {w : World} {R R' : Int → World → Prop} (h : rlog_Log_TruncateFrom.Call l i w R) (hr : ∀ r w', R r w' → R' r w') : rlog_Log_TruncateFrom.Call l i w R' :=
  Calls.mono h fun e w' he => by
    obtain ⟨r, h1, h2⟩ := he
    exact ⟨r, h1, hr r w' h2⟩
def rlog_Log_TruncateFrom.RV (R : Int → World → Prop) (v : Value) (w : World) : Prop := match v with
  | .int .i64 r => R r w
  | _ => False
theorem rlog_Log_TruncateFrom.RV_elim {R : Int → World → Prop} {v : Value} {w : World} (h : rlog_Log_TruncateFrom.RV R v w) : ∃ r, Ending.returned v = .returned (.int .i64 r) ∧ R r w := by
  unfold rlog_Log_TruncateFrom.RV at h
  split at h
  · exact ⟨_, rfl, h⟩
  · exact h.elim
/-- (*e2e/rlogm.Log).TruncateFrom -/
def rlogm_Log_TruncateFrom.Call (l : Option Addr) (i : Int) (w : World) (R : Int → World → Prop) : Prop :=
  Calls Try.prog 65 #[.pointer l, .int .i64 i] w fun e w' => ∃ r, e = .returned (.int .i64 r) ∧ R r w'
theorem rlogm_Log_TruncateFrom.Call.mono {l i} {w : World} {R R' : Int → World → Prop} (h : rlogm_Log_TruncateFrom.Call l i w R) (hr : ∀ r w', R r w' → R' r w') : rlogm_Log_TruncateFrom.Call l i w R' :=
  Calls.mono h fun e w' he => by
    obtain ⟨r, h1, h2⟩ := he
    exact ⟨r, h1, hr r w' h2⟩
def rlogm_Log_TruncateFrom.RV (R : Int → World → Prop) (v : Value) (w : World) : Prop := match v with
  | .int .i64 r => R r w
  | _ => False
theorem rlogm_Log_TruncateFrom.RV_elim {R : Int → World → Prop} {v : Value} {w : World} (h : rlogm_Log_TruncateFrom.RV R v w) : ∃ r, Ending.returned v = .returned (.int .i64 r) ∧ R r w := by
  unfold rlogm_Log_TruncateFrom.RV at h
  split at h
  · exact ⟨_, rfl, h⟩
  · exact h.elim
/-- (*e2e/rlog.Log).Compact -/
def rlog_Log_Compact.Call (l : Option Addr) (upTo : Int) (snap : ByteArray) (w : World) (R : Int → World → Prop) : Prop :=
  Calls Try.prog 66 #[.pointer l, .int .i64 upTo, .string snap] w fun e w' => ∃ r, e = .returned (.int .i64 r) ∧ R r w'
theorem rlog_Log_Compact.Call.mono {l upTo snap} {w : World} {R R' : Int → World → Prop} (h : rlog_Log_Compact.Call l upTo snap w R) (hr : ∀ r w', R r w' → R' r w') : rlog_Log_Compact.Call l upTo snap w R' :=
  Calls.mono h fun e w' he => by
    obtain ⟨r, h1, h2⟩ := he
    exact ⟨r, h1, hr r w' h2⟩
def rlog_Log_Compact.RV (R : Int → World → Prop) (v : Value) (w : World) : Prop := match v with
  | .int .i64 r => R r w
  | _ => False
theorem rlog_Log_Compact.RV_elim {R : Int → World → Prop} {v : Value} {w : World} (h : rlog_Log_Compact.RV R v w) : ∃ r, Ending.returned v = .returned (.int .i64 r) ∧ R r w := by
  unfold rlog_Log_Compact.RV at h
  split at h
  · exact ⟨_, rfl, h⟩
  · exact h.elim
/-- (*e2e/rlogm.Log).Compact -/
def rlogm_Log_Compact.Call (l : Option Addr) (upTo : Int) (snap : ByteArray) (w : World) (R : Int → World → Prop) : Prop :=
  Calls Try.prog 67 #[.pointer l, .int .i64 upTo, .string snap] w fun e w' => ∃ r, e = .returned (.int .i64 r) ∧ R r w'
theorem rlogm_Log_Compact.Call.mono {l upTo snap} {w : World} {R R' : Int → World → Prop} (h : rlogm_Log_Compact.Call l upTo snap w R) (hr : ∀ r w', R r w' → R' r w') : rlogm_Log_Compact.Call l upTo snap w R' :=
  Calls.mono h fun e w' he => by
    obtain ⟨r, h1, h2⟩ := he
    exact ⟨r, h1, hr r w' h2⟩
def rlogm_Log_Compact.RV (R : Int → World → Prop) (v : Value) (w : World) : Prop := match v with
  | .int .i64 r => R r w
  | _ => False
theorem rlogm_Log_Compact.RV_elim {R : Int → World → Prop} {v : Value} {w : World} (h : rlogm_Log_Compact.RV R v w) : ∃ r, Ending.returned v = .returned (.int .i64 r) ∧ R r w := by
  unfold rlogm_Log_Compact.RV at h
  split at h
  · exact ⟨_, rfl, h⟩
  · exact h.elim
/-- (*e2e/rlog.Log).Install -/
def rlog_Log_Install.Call (l : Option Addr) (idx term : Int) (snap : ByteArray) (w : World) (R : Int → World → Prop) : Prop :=
  Calls Try.prog 68 #[.pointer l, .int .i64 idx, .int .i64 term, .string snap] w fun e w' => ∃ r, e = .returned (.int .i64 r) ∧ R r w'
theorem rlog_Log_Install.Call.mono {l idx term snap} {w : World} {R R' : Int → World → Prop} (h : rlog_Log_Install.Call l idx term snap w R) (hr : ∀ r w', R r w' → R' r w') : rlog_Log_Install.Call l idx term snap w R' :=
  Calls.mono h fun e w' he => by
    obtain ⟨r, h1, h2⟩ := he
    exact ⟨r, h1, hr r w' h2⟩
def rlog_Log_Install.RV (R : Int → World → Prop) (v : Value) (w : World) : Prop := match v with
  | .int .i64 r => R r w
  | _ => False
theorem rlog_Log_Install.RV_elim {R : Int → World → Prop} {v : Value} {w : World} (h : rlog_Log_Install.RV R v w) : ∃ r, Ending.returned v = .returned (.int .i64 r) ∧ R r w := by
  unfold rlog_Log_Install.RV at h
  split at h
  · exact ⟨_, rfl, h⟩
  · exact h.elim
/-- (*e2e/rlogm.Log).Install -/
def rlogm_Log_Install.Call (l : Option Addr) (idx term : Int) (snap : ByteArray) (w : World) (R : Int → World → Prop) : Prop :=
  Calls Try.prog 69 #[.pointer l, .int .i64 idx, .int .i64 term, .string snap] w fun e w' => ∃ r, e = .returned (.int .i64 r) ∧ R r w'
theorem rlogm_Log_Install.Call.mono {l idx term snap} {w : World} {R R' : Int → World → Prop} (h : rlogm_Log_Install.Call l idx term snap w R) (hr : ∀ r w', R r w' → R' r w') : rlogm_Log_Install.Call l idx term snap w R' :=
  Calls.mono h fun e w' he => by
    obtain ⟨r, h1, h2⟩ := he
    exact ⟨r, h1, hr r w' h2⟩
def rlogm_Log_Install.RV (R : Int → World → Prop) (v : Value) (w : World) : Prop := match v with
  | .int .i64 r => R r w
  | _ => False
theorem rlogm_Log_Install.RV_elim {R : Int → World → Prop} {v : Value} {w : World} (h : rlogm_Log_Install.RV R v w) : ∃ r, Ending.returned v = .returned (.int .i64 r) ∧ R r w := by
  unfold rlogm_Log_Install.RV at h
  split at h
  · exact ⟨_, rfl, h⟩
  · exact h.elim
/-- (*e2e/rlog.Log).At -/
def rlog_Log_At.Call (l : Option Addr) (i : Int) (w : World) (R : Int → ByteArray → Int → World → Prop) : Prop :=
  Calls Try.prog 70 #[.pointer l, .int .i64 i] w fun e w' => ∃ r0_0 r0_1 r1, e = .returned (.tuple #[.agg #[.int .i64 r0_0, .string r0_1], .int .i64 r1]) ∧ R r0_0 r0_1 r1 w'
theorem rlog_Log_At.Call.mono {l i} {w : World} {R R' : Int → ByteArray → Int → World → Prop} (h : rlog_Log_At.Call l i w R) (hr : ∀ r0_0 r0_1 r1 w', R r0_0 r0_1 r1 w' → R' r0_0 r0_1 r1 w') : rlog_Log_At.Call l i w R' :=
  Calls.mono h fun e w' he => by
    obtain ⟨r0_0, r0_1, r1, h1, h2⟩ := he
    exact ⟨r0_0, r0_1, r1, h1, hr r0_0 r0_1 r1 w' h2⟩
def rlog_Log_At.RV (R : Int → ByteArray → Int → World → Prop) (v : Value) (w : World) : Prop := match v with
  | .tuple ⟨[.agg ⟨[.int .i64 r0_0, .string r0_1]⟩, .int .i64 r1]⟩ => R r0_0 r0_1 r1 w
  | _ => False
theorem rlog_Log_At.RV_elim {R : Int → ByteArray → Int → World → Prop} {v : Value} {w : World} (h : rlog_Log_At.RV R v w) : ∃ r0_0 r0_1 r1, Ending.returned v = .returned (.tuple #[.agg #[.int .i64 r0_0, .string r0_1], .int .i64 r1]) ∧ R r0_0 r0_1 r1 w := by
  unfold rlog_Log_At.RV at h
  split at h
  · exact ⟨_, _, _, rfl, h⟩
  · exact h.elim
/-- (*e2e/rlogm.Log).At -/
def rlogm_Log_At.Call (l : Option Addr) (i : Int) (w : World) (R : Int → ByteArray → Int → World → Prop) : Prop :=
  Calls Try.prog 71 #[.pointer l, .int .i64 i] w fun e w' => ∃ r0_0 r0_1 r1, e = .returned (.tuple #[.agg #[.int .i64 r0_0, .string r0_1], .int .i64 r1]) ∧ R r0_0 r0_1 r1 w'
theorem rlogm_Log_At.Call.mono {l i} {w : World} {R R' : Int → ByteArray → Int → World → Prop} (h : rlogm_Log_At.Call l i w R) (hr : ∀ r0_0 r0_1 r1 w', R r0_0 r0_1 r1 w' → R' r0_0 r0_1 r1 w') : rlogm_Log_At.Call l i w R' :=
  Calls.mono h fun e w' he => by
    obtain ⟨r0_0, r0_1, r1, h1, h2⟩ := he
    exact ⟨r0_0, r0_1, r1, h1, hr r0_0 r0_1 r1 w' h2⟩
def rlogm_Log_At.RV (R : Int → ByteArray → Int → World → Prop) (v : Value) (w : World) : Prop := match v with
  | .tuple ⟨[.agg ⟨[.int .i64 r0_0, .string r0_1]⟩, .int .i64 r1]⟩ => R r0_0 r0_1 r1 w
  | _ => False
theorem rlogm_Log_At.RV_elim {R : Int → ByteArray → Int → World → Prop} {v : Value} {w : World} (h : rlogm_Log_At.RV R v w) : ∃ r0_0 r0_1 r1, Ending.returned v = .returned (.tuple #[.agg #[.int .i64 r0_0, .string r0_1], .int .i64 r1]) ∧ R r0_0 r0_1 r1 w := by
  unfold rlogm_Log_At.RV at h
  split at h
  · exact ⟨_, _, _, rfl, h⟩
  · exact h.elim
/-- (*e2e/rlog.Log).TermAt -/
def rlog_Log_TermAt.Call (l : Option Addr) (i : Int) (w : World) (R : Int → Int → World → Prop) : Prop :=
  Calls Try.prog 72 #[.pointer l, .int .i64 i] w fun e w' => ∃ r0 r1, e = .returned (.tuple #[.int .i64 r0, .int .i64 r1]) ∧ R r0 r1 w'
theorem rlog_Log_TermAt.Call.mono {l i} {w : World} {R R' : Int → Int → World → Prop} (h : rlog_Log_TermAt.Call l i w R) (hr : ∀ r0 r1 w', R r0 r1 w' → R' r0 r1 w') : rlog_Log_TermAt.Call l i w R' :=
  Calls.mono h fun e w' he => by
    obtain ⟨r0, r1, h1, h2⟩ := he
    exact ⟨r0, r1, h1, hr r0 r1 w' h2⟩
def rlog_Log_TermAt.RV (R : Int → Int → World → Prop) (v : Value) (w : World) : Prop := match v with
  | .tuple ⟨[.int .i64 r0, .int .i64 r1]⟩ => R r0 r1 w
  | _ => False
theorem rlog_Log_TermAt.RV_elim {R : Int → Int → World → Prop} {v : Value} {w : World} (h : rlog_Log_TermAt.RV R v w) : ∃ r0 r1, Ending.returned v = .returned (.tuple #[.int .i64 r0, .int .i64 r1]) ∧ R r0 r1 w := by
  unfold rlog_Log_TermAt.RV at h
  split at h
  · exact ⟨_, _, rfl, h⟩
  · exact h.elim
/-- (*e2e/rlogm.Log).TermAt -/
def rlogm_Log_TermAt.Call (l : Option Addr) (i : Int) (w : World) (R : Int → Int → World → Prop) : Prop :=
  Calls Try.prog 73 #[.pointer l, .int .i64 i] w fun e w' => ∃ r0 r1, e = .returned (.tuple #[.int .i64 r0, .int .i64 r1]) ∧ R r0 r1 w'
theorem rlogm_Log_TermAt.Call.mono {l i} {w : World} {R R' : Int → Int → World → Prop} (h : rlogm_Log_TermAt.Call l i w R) (hr : ∀ r0 r1 w', R r0 r1 w' → R' r0 r1 w') : rlogm_Log_TermAt.Call l i w R' :=
  Calls.mono h fun e w' he => by
    obtain ⟨r0, r1, h1, h2⟩ := he
    exact ⟨r0, r1, h1, hr r0 r1 w' h2⟩
def rlogm_Log_TermAt.RV (R : Int → Int → World → Prop) (v : Value) (w : World) : Prop := match v with
  | .tuple ⟨[.int .i64 r0, .int .i64 r1]⟩ => R r0 r1 w
  | _ => False
theorem rlogm_Log_TermAt.RV_elim {R : Int → Int → World → Prop} {v : Value} {w : World} (h : rlogm_Log_TermAt.RV R v w) : ∃ r0 r1, Ending.returned v = .returned (.tuple #[.int .i64 r0, .int .i64 r1]) ∧ R r0 r1 w := by
  unfold rlogm_Log_TermAt.RV at h
  split at h
  · exact ⟨_, _, rfl, h⟩
  · exact h.elim
/-- (*e2e/rlog.Log).Term -/
def rlog_Log_Term.Call (l : Option Addr) (w : World) (R : Int → World → Prop) : Prop :=
  Calls Try.prog 74 #[.pointer l] w fun e w' => ∃ r, e = .returned (.int .i64 r) ∧ R r w'
theorem rlog_Log_Term.Call.mono {l} {w : World} {R R' : Int → World → Prop} (h : rlog_Log_Term.Call l w R) (hr : ∀ r w', R r w' → R' r w') : rlog_Log_Term.Call l w R' :=
  Calls.mono h fun e w' he => by
    obtain ⟨r, h1, h2⟩ := he
    exact ⟨r, h1, hr r w' h2⟩
def rlog_Log_Term.RV (R : Int → World → Prop) (v : Value) (w : World) : Prop := match v with
  | .int .i64 r => R r w
  | _ => False
theorem rlog_Log_Term.RV_elim {R : Int → World → Prop} {v : Value} {w : World} (h : rlog_Log_Term.RV R v w) : ∃ r, Ending.returned v = .returned (.int .i64 r) ∧ R r w := by
  unfold rlog_Log_Term.RV at h
  split at h
  · exact ⟨_, rfl, h⟩
  · exact h.elim
/-- (*e2e/rlogm.Log).Term -/
def rlogm_Log_Term.Call (l : Option Addr) (w : World) (R : Int → World → Prop) : Prop :=
  Calls Try.prog 75 #[.pointer l] w fun e w' => ∃ r, e = .returned (.int .i64 r) ∧ R r w'
theorem rlogm_Log_Term.Call.mono {l} {w : World} {R R' : Int → World → Prop} (h : rlogm_Log_Term.Call l w R) (hr : ∀ r w', R r w' → R' r w') : rlogm_Log_Term.Call l w R' :=
  Calls.mono h fun e w' he => by
    obtain ⟨r, h1, h2⟩ := he
    exact ⟨r, h1, hr r w' h2⟩
def rlogm_Log_Term.RV (R : Int → World → Prop) (v : Value) (w : World) : Prop := match v with
  | .int .i64 r => R r w
  | _ => False
theorem rlogm_Log_Term.RV_elim {R : Int → World → Prop} {v : Value} {w : World} (h : rlogm_Log_Term.RV R v w) : ∃ r, Ending.returned v = .returned (.int .i64 r) ∧ R r w := by
  unfold rlogm_Log_Term.RV at h
  split at h
  · exact ⟨_, rfl, h⟩
  · exact h.elim
/-- (*e2e/rlog.Log).Vote -/
def rlog_Log_Vote.Call (l : Option Addr) (w : World) (R : Int → World → Prop) : Prop :=
  Calls Try.prog 76 #[.pointer l] w fun e w' => ∃ r, e = .returned (.int .i64 r) ∧ R r w'
theorem rlog_Log_Vote.Call.mono {l} {w : World} {R R' : Int → World → Prop} (h : rlog_Log_Vote.Call l w R) (hr : ∀ r w', R r w' → R' r w') : rlog_Log_Vote.Call l w R' :=
  Calls.mono h fun e w' he => by
    obtain ⟨r, h1, h2⟩ := he
    exact ⟨r, h1, hr r w' h2⟩
def rlog_Log_Vote.RV (R : Int → World → Prop) (v : Value) (w : World) : Prop := match v with
  | .int .i64 r => R r w
  | _ => False
theorem rlog_Log_Vote.RV_elim {R : Int → World → Prop} {v : Value} {w : World} (h : rlog_Log_Vote.RV R v w) : ∃ r, Ending.returned v = .returned (.int .i64 r) ∧ R r w := by
  unfold rlog_Log_Vote.RV at h
  split at h
  · exact ⟨_, rfl, h⟩
  · exact h.elim
/-- (*e2e/rlogm.Log).Vote -/
def rlogm_Log_Vote.Call (l : Option Addr) (w : World) (R : Int → World → Prop) : Prop :=
  Calls Try.prog 77 #[.pointer l] w fun e w' => ∃ r, e = .returned (.int .i64 r) ∧ R r w'
theorem rlogm_Log_Vote.Call.mono {l} {w : World} {R R' : Int → World → Prop} (h : rlogm_Log_Vote.Call l w R) (hr : ∀ r w', R r w' → R' r w') : rlogm_Log_Vote.Call l w R' :=
  Calls.mono h fun e w' he => by
    obtain ⟨r, h1, h2⟩ := he
    exact ⟨r, h1, hr r w' h2⟩
def rlogm_Log_Vote.RV (R : Int → World → Prop) (v : Value) (w : World) : Prop := match v with
  | .int .i64 r => R r w
  | _ => False
theorem rlogm_Log_Vote.RV_elim {R : Int → World → Prop} {v : Value} {w : World} (h : rlogm_Log_Vote.RV R v w) : ∃ r, Ending.returned v = .returned (.int .i64 r) ∧ R r w := by
  unfold rlogm_Log_Vote.RV at h
  split at h
  · exact ⟨_, rfl, h⟩
  · exact h.elim
/-- (*e2e/rlog.Log).Base -/
def rlog_Log_Base.Call (l : Option Addr) (w : World) (R : Int → World → Prop) : Prop :=
  Calls Try.prog 78 #[.pointer l] w fun e w' => ∃ r, e = .returned (.int .i64 r) ∧ R r w'
theorem rlog_Log_Base.Call.mono {l} {w : World} {R R' : Int → World → Prop} (h : rlog_Log_Base.Call l w R) (hr : ∀ r w', R r w' → R' r w') : rlog_Log_Base.Call l w R' :=
  Calls.mono h fun e w' he => by
    obtain ⟨r, h1, h2⟩ := he
    exact ⟨r, h1, hr r w' h2⟩
def rlog_Log_Base.RV (R : Int → World → Prop) (v : Value) (w : World) : Prop := match v with
  | .int .i64 r => R r w
  | _ => False
theorem rlog_Log_Base.RV_elim {R : Int → World → Prop} {v : Value} {w : World} (h : rlog_Log_Base.RV R v w) : ∃ r, Ending.returned v = .returned (.int .i64 r) ∧ R r w := by
  unfold rlog_Log_Base.RV at h
  split at h
  · exact ⟨_, rfl, h⟩
  · exact h.elim
/-- (*e2e/rlog.Log).BaseTerm -/
def rlog_Log_BaseTerm.Call (l : Option Addr) (w : World) (R : Int → World → Prop) : Prop :=
  Calls Try.prog 79 #[.pointer l] w fun e w' => ∃ r, e = .returned (.int .i64 r) ∧ R r w'
theorem rlog_Log_BaseTerm.Call.mono {l} {w : World} {R R' : Int → World → Prop} (h : rlog_Log_BaseTerm.Call l w R) (hr : ∀ r w', R r w' → R' r w') : rlog_Log_BaseTerm.Call l w R' :=
  Calls.mono h fun e w' he => by
    obtain ⟨r, h1, h2⟩ := he
    exact ⟨r, h1, hr r w' h2⟩
def rlog_Log_BaseTerm.RV (R : Int → World → Prop) (v : Value) (w : World) : Prop := match v with
  | .int .i64 r => R r w
  | _ => False
theorem rlog_Log_BaseTerm.RV_elim {R : Int → World → Prop} {v : Value} {w : World} (h : rlog_Log_BaseTerm.RV R v w) : ∃ r, Ending.returned v = .returned (.int .i64 r) ∧ R r w := by
  unfold rlog_Log_BaseTerm.RV at h
  split at h
  · exact ⟨_, rfl, h⟩
  · exact h.elim
/-- (*e2e/rlogm.Log).BaseTerm -/
def rlogm_Log_BaseTerm.Call (l : Option Addr) (w : World) (R : Int → World → Prop) : Prop :=
  Calls Try.prog 80 #[.pointer l] w fun e w' => ∃ r, e = .returned (.int .i64 r) ∧ R r w'
theorem rlogm_Log_BaseTerm.Call.mono {l} {w : World} {R R' : Int → World → Prop} (h : rlogm_Log_BaseTerm.Call l w R) (hr : ∀ r w', R r w' → R' r w') : rlogm_Log_BaseTerm.Call l w R' :=
  Calls.mono h fun e w' he => by
    obtain ⟨r, h1, h2⟩ := he
    exact ⟨r, h1, hr r w' h2⟩
def rlogm_Log_BaseTerm.RV (R : Int → World → Prop) (v : Value) (w : World) : Prop := match v with
  | .int .i64 r => R r w
  | _ => False
theorem rlogm_Log_BaseTerm.RV_elim {R : Int → World → Prop} {v : Value} {w : World} (h : rlogm_Log_BaseTerm.RV R v w) : ∃ r, Ending.returned v = .returned (.int .i64 r) ∧ R r w := by
  unfold rlogm_Log_BaseTerm.RV at h
  split at h
  · exact ⟨_, rfl, h⟩
  · exact h.elim
/-- (*e2e/rlog.Log).Snap -/
def rlog_Log_Snap.Call (l : Option Addr) (w : World) (R : ByteArray → World → Prop) : Prop :=
  Calls Try.prog 81 #[.pointer l] w fun e w' => ∃ r, e = .returned (.string r) ∧ R r w'
theorem rlog_Log_Snap.Call.mono {l} {w : World} {R R' : ByteArray → World → Prop} (h : rlog_Log_Snap.Call l w R) (hr : ∀ r w', R r w' → R' r w') : rlog_Log_Snap.Call l w R' :=
  Calls.mono h fun e w' he => by
    obtain ⟨r, h1, h2⟩ := he
    exact ⟨r, h1, hr r w' h2⟩
def rlog_Log_Snap.RV (R : ByteArray → World → Prop) (v : Value) (w : World) : Prop := match v with
  | .string r => R r w
  | _ => False
theorem rlog_Log_Snap.RV_elim {R : ByteArray → World → Prop} {v : Value} {w : World} (h : rlog_Log_Snap.RV R v w) : ∃ r, Ending.returned v = .returned (.string r) ∧ R r w := by
  unfold rlog_Log_Snap.RV at h
  split at h
  · exact ⟨_, rfl, h⟩
  · exact h.elim
/-- (*e2e/rlogm.Log).Snap -/
def rlogm_Log_Snap.Call (l : Option Addr) (w : World) (R : ByteArray → World → Prop) : Prop :=
  Calls Try.prog 82 #[.pointer l] w fun e w' => ∃ r, e = .returned (.string r) ∧ R r w'
theorem rlogm_Log_Snap.Call.mono {l} {w : World} {R R' : ByteArray → World → Prop} (h : rlogm_Log_Snap.Call l w R) (hr : ∀ r w', R r w' → R' r w') : rlogm_Log_Snap.Call l w R' :=
  Calls.mono h fun e w' he => by
    obtain ⟨r, h1, h2⟩ := he
    exact ⟨r, h1, hr r w' h2⟩
def rlogm_Log_Snap.RV (R : ByteArray → World → Prop) (v : Value) (w : World) : Prop := match v with
  | .string r => R r w
  | _ => False
theorem rlogm_Log_Snap.RV_elim {R : ByteArray → World → Prop} {v : Value} {w : World} (h : rlogm_Log_Snap.RV R v w) : ∃ r, Ending.returned v = .returned (.string r) ∧ R r w := by
  unfold rlogm_Log_Snap.RV at h
  split at h
  · exact ⟨_, rfl, h⟩
  · exact h.elim
/-- (*e2e/rlog.Log).Last -/
def rlog_Log_Last.Call (l : Option Addr) (w : World) (R : Int → World → Prop) : Prop :=
  Calls Try.prog 83 #[.pointer l] w fun e w' => ∃ r, e = .returned (.int .i64 r) ∧ R r w'
theorem rlog_Log_Last.Call.mono {l} {w : World} {R R' : Int → World → Prop} (h : rlog_Log_Last.Call l w R) (hr : ∀ r w', R r w' → R' r w') : rlog_Log_Last.Call l w R' :=
  Calls.mono h fun e w' he => by
    obtain ⟨r, h1, h2⟩ := he
    exact ⟨r, h1, hr r w' h2⟩
def rlog_Log_Last.RV (R : Int → World → Prop) (v : Value) (w : World) : Prop := match v with
  | .int .i64 r => R r w
  | _ => False
theorem rlog_Log_Last.RV_elim {R : Int → World → Prop} {v : Value} {w : World} (h : rlog_Log_Last.RV R v w) : ∃ r, Ending.returned v = .returned (.int .i64 r) ∧ R r w := by
  unfold rlog_Log_Last.RV at h
  split at h
  · exact ⟨_, rfl, h⟩
  · exact h.elim
/-- (*e2e/store.Store).DelRec -/
def store_Store_DelRec.Call (t : Option Addr) (slot : Int) (w : World) (R : Int → World → Prop) : Prop :=
  Calls Try.prog 84 #[.pointer t, .int .i64 slot] w fun e w' => ∃ r, e = .returned (.int .i64 r) ∧ R r w'
theorem store_Store_DelRec.Call.mono {t slot} {w : World} {R R' : Int → World → Prop} (h : store_Store_DelRec.Call t slot w R) (hr : ∀ r w', R r w' → R' r w') : store_Store_DelRec.Call t slot w R' :=
  Calls.mono h fun e w' he => by
    obtain ⟨r, h1, h2⟩ := he
    exact ⟨r, h1, hr r w' h2⟩
def store_Store_DelRec.RV (R : Int → World → Prop) (v : Value) (w : World) : Prop := match v with
  | .int .i64 r => R r w
  | _ => False
theorem store_Store_DelRec.RV_elim {R : Int → World → Prop} {v : Value} {w : World} (h : store_Store_DelRec.RV R v w) : ∃ r, Ending.returned v = .returned (.int .i64 r) ∧ R r w := by
  unfold store_Store_DelRec.RV at h
  split at h
  · exact ⟨_, rfl, h⟩
  · exact h.elim
/-- (*e2e/diskm.Disk).Read -/
def diskm_Disk_Read.Call (d : Option Addr) (b : Int) (w : World) (R : ByteArray → Int → World → Prop) : Prop :=
  Calls Try.prog 85 #[.pointer d, .int .i64 b] w fun e w' => ∃ r0 r1, e = .returned (.tuple #[.string r0, .int .i64 r1]) ∧ R r0 r1 w'
theorem diskm_Disk_Read.Call.mono {d b} {w : World} {R R' : ByteArray → Int → World → Prop} (h : diskm_Disk_Read.Call d b w R) (hr : ∀ r0 r1 w', R r0 r1 w' → R' r0 r1 w') : diskm_Disk_Read.Call d b w R' :=
  Calls.mono h fun e w' he => by
    obtain ⟨r0, r1, h1, h2⟩ := he
    exact ⟨r0, r1, h1, hr r0 r1 w' h2⟩
def diskm_Disk_Read.RV (R : ByteArray → Int → World → Prop) (v : Value) (w : World) : Prop := match v with
  | .tuple ⟨[.string r0, .int .i64 r1]⟩ => R r0 r1 w
  | _ => False
theorem diskm_Disk_Read.RV_elim {R : ByteArray → Int → World → Prop} {v : Value} {w : World} (h : diskm_Disk_Read.RV R v w) : ∃ r0 r1, Ending.returned v = .returned (.tuple #[.string r0, .int .i64 r1]) ∧ R r0 r1 w := by
  unfold diskm_Disk_Read.RV at h
  split at h
  · exact ⟨_, _, rfl, h⟩
  · exact h.elim
/-- e2e/store.whole -/
def store_whole.Call (b : ByteArray) (w : World) (R : Bool → World → Prop) : Prop :=
  Calls Try.prog 86 #[.string b] w fun e w' => ∃ r, e = .returned (.bool r) ∧ R r w'
theorem store_whole.Call.mono {b} {w : World} {R R' : Bool → World → Prop} (h : store_whole.Call b w R) (hr : ∀ r w', R r w' → R' r w') : store_whole.Call b w R' :=
  Calls.mono h fun e w' he => by
    obtain ⟨r, h1, h2⟩ := he
    exact ⟨r, h1, hr r w' h2⟩
def store_whole.RV (R : Bool → World → Prop) (v : Value) (w : World) : Prop := match v with
  | .bool r => R r w
  | _ => False
theorem store_whole.RV_elim {R : Bool → World → Prop} {v : Value} {w : World} (h : store_whole.RV R v w) : ∃ r, Ending.returned v = .returned (.bool r) ∧ R r w := by
  unfold store_whole.RV at h
  split at h
  · exact ⟨_, rfl, h⟩
  · exact h.elim
/-- e2e/store.get8 -/
def store_get8.Call (b : ByteArray) (at0 : Int) (w : World) (R : Int → World → Prop) : Prop :=
  Calls Try.prog 87 #[.string b, .int .i64 at0] w fun e w' => ∃ r, e = .returned (.int .i64 r) ∧ R r w'
theorem store_get8.Call.mono {b at0} {w : World} {R R' : Int → World → Prop} (h : store_get8.Call b at0 w R) (hr : ∀ r w', R r w' → R' r w') : store_get8.Call b at0 w R' :=
  Calls.mono h fun e w' he => by
    obtain ⟨r, h1, h2⟩ := he
    exact ⟨r, h1, hr r w' h2⟩
def store_get8.RV (R : Int → World → Prop) (v : Value) (w : World) : Prop := match v with
  | .int .i64 r => R r w
  | _ => False
theorem store_get8.RV_elim {R : Int → World → Prop} {v : Value} {w : World} (h : store_get8.RV R v w) : ∃ r, Ending.returned v = .returned (.int .i64 r) ∧ R r w := by
  unfold store_get8.RV at h
  split at h
  · exact ⟨_, rfl, h⟩
  · exact h.elim
/-- (*e2e/store.Store).SetMeta -/
def store_Store_SetMeta.Call (t : Option Addr) (term vote : Int) (w : World) (R : Int → World → Prop) : Prop :=
  Calls Try.prog 88 #[.pointer t, .int .i64 term, .int .i64 vote] w fun e w' => ∃ r, e = .returned (.int .i64 r) ∧ R r w'
theorem store_Store_SetMeta.Call.mono {t term vote} {w : World} {R R' : Int → World → Prop} (h : store_Store_SetMeta.Call t term vote w R) (hr : ∀ r w', R r w' → R' r w') : store_Store_SetMeta.Call t term vote w R' :=
  Calls.mono h fun e w' he => by
    obtain ⟨r, h1, h2⟩ := he
    exact ⟨r, h1, hr r w' h2⟩
def store_Store_SetMeta.RV (R : Int → World → Prop) (v : Value) (w : World) : Prop := match v with
  | .int .i64 r => R r w
  | _ => False
theorem store_Store_SetMeta.RV_elim {R : Int → World → Prop} {v : Value} {w : World} (h : store_Store_SetMeta.RV R v w) : ∃ r, Ending.returned v = .returned (.int .i64 r) ∧ R r w := by
  unfold store_Store_SetMeta.RV at h
  split at h
  · exact ⟨_, rfl, h⟩
  · exact h.elim
/-- (*e2e/rlogm.Log).step -/
def rlogm_Log_step.Call (l : Option Addr) (w : World) (R : World → Prop) : Prop :=
  Calls Try.prog 89 #[.pointer l] w fun e w' => e = .returned (.tuple #[]) ∧ R w'
theorem rlogm_Log_step.Call.mono {l} {w : World} {R R' : World → Prop} (h : rlogm_Log_step.Call l w R) (hr : ∀ w', R w' → R'  w') : rlogm_Log_step.Call l w R' :=
  Calls.mono h fun e w' he => by
    obtain ⟨h1, h2⟩ := he
    exact ⟨h1, hr  w' h2⟩
def rlogm_Log_step.RV (R : World → Prop) (v : Value) (w : World) : Prop := match v with
  | .tuple ⟨[]⟩ => R w
  | _ => False
theorem rlogm_Log_step.RV_elim {R : World → Prop} {v : Value} {w : World} (h : rlogm_Log_step.RV R v w) : Ending.returned v = .returned (.tuple #[]) ∧ R w := by
  unfold rlogm_Log_step.RV at h
  split at h
  · exact ⟨rfl, h⟩
  · exact h.elim
/-- (*e2e/store.Store).PutRec -/
def store_Store_PutRec.Call (t : Option Addr) (slot r_0 r_1 : Int) (r_2 : ByteArray) (w : World) (R : Int → World → Prop) : Prop :=
  Calls Try.prog 90 #[.pointer t, .int .i64 slot, .agg #[.int .i64 r_0, .int .i64 r_1, .string r_2]] w fun e w' => ∃ r, e = .returned (.int .i64 r) ∧ R r w'
theorem store_Store_PutRec.Call.mono {t slot r_0 r_1 r_2} {w : World} {R R' : Int → World → Prop} (h : store_Store_PutRec.Call t slot r_0 r_1 r_2 w R) (hr : ∀ r w', R r w' → R' r w') : store_Store_PutRec.Call t slot r_0 r_1 r_2 w R' :=
  Calls.mono h fun e w' he => by
    obtain ⟨r, h1, h2⟩ := he
    exact ⟨r, h1, hr r w' h2⟩
def store_Store_PutRec.RV (R : Int → World → Prop) (v : Value) (w : World) : Prop := match v with
  | .int .i64 r => R r w
  | _ => False
theorem store_Store_PutRec.RV_elim {R : Int → World → Prop} {v : Value} {w : World} (h : store_Store_PutRec.RV R v w) : ∃ r, Ending.returned v = .returned (.int .i64 r) ∧ R r w := by
  unfold store_Store_PutRec.RV at h
  split at h
  · exact ⟨_, rfl, h⟩
  · exact h.elim
/-- (*e2e/rlog.Log).dropFrom -/
def rlog_Log_dropFrom.Call (l : Option Addr) (i : Int) (w : World) (R : Int → World → Prop) : Prop :=
  Calls Try.prog 91 #[.pointer l, .int .i64 i] w fun e w' => ∃ r, e = .returned (.int .i64 r) ∧ R r w'
theorem rlog_Log_dropFrom.Call.mono {l i} {w : World} {R R' : Int → World → Prop} (h : rlog_Log_dropFrom.Call l i w R) (hr : ∀ r w', R r w' → R' r w') : rlog_Log_dropFrom.Call l i w R' :=
  Calls.mono h fun e w' he => by
    obtain ⟨r, h1, h2⟩ := he
    exact ⟨r, h1, hr r w' h2⟩
def rlog_Log_dropFrom.RV (R : Int → World → Prop) (v : Value) (w : World) : Prop := match v with
  | .int .i64 r => R r w
  | _ => False
theorem rlog_Log_dropFrom.RV_elim {R : Int → World → Prop} {v : Value} {w : World} (h : rlog_Log_dropFrom.RV R v w) : ∃ r, Ending.returned v = .returned (.int .i64 r) ∧ R r w := by
  unfold rlog_Log_dropFrom.RV at h
  split at h
  · exact ⟨_, rfl, h⟩
  · exact h.elim
/-- (*e2e/rlogm.Log).pop -/
def rlogm_Log_pop.Call (l : Option Addr) (w : World) (R : World → Prop) : Prop :=
  Calls Try.prog 92 #[.pointer l] w fun e w' => e = .returned (.tuple #[]) ∧ R w'
theorem rlogm_Log_pop.Call.mono {l} {w : World} {R R' : World → Prop} (h : rlogm_Log_pop.Call l w R) (hr : ∀ w', R w' → R'  w') : rlogm_Log_pop.Call l w R' :=
  Calls.mono h fun e w' he => by
    obtain ⟨h1, h2⟩ := he
    exact ⟨h1, hr  w' h2⟩
def rlogm_Log_pop.RV (R : World → Prop) (v : Value) (w : World) : Prop := match v with
  | .tuple ⟨[]⟩ => R w
  | _ => False
theorem rlogm_Log_pop.RV_elim {R : World → Prop} {v : Value} {w : World} (h : rlogm_Log_pop.RV R v w) : Ending.returned v = .returned (.tuple #[]) ∧ R w := by
  unfold rlogm_Log_pop.RV at h
  split at h
  · exact ⟨rfl, h⟩
  · exact h.elim
/-- (*e2e/rlog.Log).rebase -/
def rlog_Log_rebase.Call (l : Option Addr) (idx term : Int) (snap : ByteArray) (w : World) (R : Int → World → Prop) : Prop :=
  Calls Try.prog 93 #[.pointer l, .int .i64 idx, .int .i64 term, .string snap] w fun e w' => ∃ r, e = .returned (.int .i64 r) ∧ R r w'
theorem rlog_Log_rebase.Call.mono {l idx term snap} {w : World} {R R' : Int → World → Prop} (h : rlog_Log_rebase.Call l idx term snap w R) (hr : ∀ r w', R r w' → R' r w') : rlog_Log_rebase.Call l idx term snap w R' :=
  Calls.mono h fun e w' he => by
    obtain ⟨r, h1, h2⟩ := he
    exact ⟨r, h1, hr r w' h2⟩
def rlog_Log_rebase.RV (R : Int → World → Prop) (v : Value) (w : World) : Prop := match v with
  | .int .i64 r => R r w
  | _ => False
theorem rlog_Log_rebase.RV_elim {R : Int → World → Prop} {v : Value} {w : World} (h : rlog_Log_rebase.RV R v w) : ∃ r, Ending.returned v = .returned (.int .i64 r) ∧ R r w := by
  unfold rlog_Log_rebase.RV at h
  split at h
  · exact ⟨_, rfl, h⟩
  · exact h.elim
/-- (*e2e/rlogm.Log).rebase -/
def rlogm_Log_rebase.Call (l : Option Addr) (idx term : Int) (snap : ByteArray) (w : World) (R : World → Prop) : Prop :=
  Calls Try.prog 94 #[.pointer l, .int .i64 idx, .int .i64 term, .string snap] w fun e w' => e = .returned (.tuple #[]) ∧ R w'
theorem rlogm_Log_rebase.Call.mono {l idx term snap} {w : World} {R R' : World → Prop} (h : rlogm_Log_rebase.Call l idx term snap w R) (hr : ∀ w', R w' → R'  w') : rlogm_Log_rebase.Call l idx term snap w R' :=
  Calls.mono h fun e w' he => by
    obtain ⟨h1, h2⟩ := he
    exact ⟨h1, hr  w' h2⟩
def rlogm_Log_rebase.RV (R : World → Prop) (v : Value) (w : World) : Prop := match v with
  | .tuple ⟨[]⟩ => R w
  | _ => False
theorem rlogm_Log_rebase.RV_elim {R : World → Prop} {v : Value} {w : World} (h : rlogm_Log_rebase.RV R v w) : Ending.returned v = .returned (.tuple #[]) ∧ R w := by
  unfold rlogm_Log_rebase.RV at h
  split at h
  · exact ⟨rfl, h⟩
  · exact h.elim
/-- (*e2e/store.Store).SetSnap -/
def store_Store_SetSnap.Call (t : Option Addr) (idx term : Int) (data : ByteArray) (w : World) (R : Int → World → Prop) : Prop :=
  Calls Try.prog 95 #[.pointer t, .int .i64 idx, .int .i64 term, .string data] w fun e w' => ∃ r, e = .returned (.int .i64 r) ∧ R r w'
theorem store_Store_SetSnap.Call.mono {t idx term data} {w : World} {R R' : Int → World → Prop} (h : store_Store_SetSnap.Call t idx term data w R) (hr : ∀ r w', R r w' → R' r w') : store_Store_SetSnap.Call t idx term data w R' :=
  Calls.mono h fun e w' he => by
    obtain ⟨r, h1, h2⟩ := he
    exact ⟨r, h1, hr r w' h2⟩
def store_Store_SetSnap.RV (R : Int → World → Prop) (v : Value) (w : World) : Prop := match v with
  | .int .i64 r => R r w
  | _ => False
theorem store_Store_SetSnap.RV_elim {R : Int → World → Prop} {v : Value} {w : World} (h : store_Store_SetSnap.RV R v w) : ∃ r, Ending.returned v = .returned (.int .i64 r) ∧ R r w := by
  unfold store_Store_SetSnap.RV at h
  split at h
  · exact ⟨_, rfl, h⟩
  · exact h.elim
/-- (*e2e/store.Store).write -/
def store_Store_write.Call (t : Option Addr) (b : Int) (x_b : Option Addr) (x_l x_c : Nat) (w : World) (R : World → Prop) : Prop :=
  Calls Try.prog 96 #[.pointer t, .int .i64 b, .slice x_b x_l x_c] w fun e w' => e = .returned (.tuple #[]) ∧ R w'
theorem store_Store_write.Call.mono {t b x_b x_l x_c} {w : World} {R R' : World → Prop} (h : store_Store_write.Call t b x_b x_l x_c w R) (hr : ∀ w', R w' → R'  w') : store_Store_write.Call t b x_b x_l x_c w R' :=
  Calls.mono h fun e w' he => by
    obtain ⟨h1, h2⟩ := he
    exact ⟨h1, hr  w' h2⟩
def store_Store_write.RV (R : World → Prop) (v : Value) (w : World) : Prop := match v with
  | .tuple ⟨[]⟩ => R w
  | _ => False
theorem store_Store_write.RV_elim {R : World → Prop} {v : Value} {w : World} (h : store_Store_write.RV R v w) : Ending.returned v = .returned (.tuple #[]) ∧ R w := by
  unfold store_Store_write.RV at h
  split at h
  · exact ⟨rfl, h⟩
  · exact h.elim
/-- e2e/store.encMeta -/
def store_encMeta.Call (m0_0 : Bool) (m0_1 m0_2 m0_3 : Int) (w : World) (R : Option Addr → Nat → Nat → World → Prop) : Prop :=
  Calls Try.prog 97 #[.agg #[.bool m0_0, .int .i64 m0_1, .int .i64 m0_2, .int .i64 m0_3]] w fun e w' => ∃ r_b r_l r_c, e = .returned (.slice r_b r_l r_c) ∧ R r_b r_l r_c w'
theorem store_encMeta.Call.mono {m0_0 m0_1 m0_2 m0_3} {w : World} {R R' : Option Addr → Nat → Nat → World → Prop} (h : store_encMeta.Call m0_0 m0_1 m0_2 m0_3 w R) (hr : ∀ r_b r_l r_c w', R r_b r_l r_c w' → R' r_b r_l r_c w') : store_encMeta.Call m0_0 m0_1 m0_2 m0_3 w R' :=
  Calls.mono h fun e w' he => by
    obtain ⟨r_b, r_l, r_c, h1, h2⟩ := he
    exact ⟨r_b, r_l, r_c, h1, hr r_b r_l r_c w' h2⟩
def store_encMeta.RV (R : Option Addr → Nat → Nat → World → Prop) (v : Value) (w : World) : Prop := match v with
  | .slice r_b r_l r_c => R r_b r_l r_c w
  | _ => False
theorem store_encMeta.RV_elim {R : Option Addr → Nat → Nat → World → Prop} {v : Value} {w : World} (h : store_encMeta.RV R v w) : ∃ r_b r_l r_c, Ending.returned v = .returned (.slice r_b r_l r_c) ∧ R r_b r_l r_c w := by
  unfold store_encMeta.RV at h
  split at h
  · exact ⟨_, _, _, rfl, h⟩
  · exact h.elim
/-- e2e/store.encRec -/
def store_encRec.Call (r_0 r_1 : Int) (r_2 : ByteArray) (w : World) (R : Option Addr → Nat → Nat → World → Prop) : Prop :=
  Calls Try.prog 98 #[.agg #[.int .i64 r_0, .int .i64 r_1, .string r_2]] w fun e w' => ∃ r_b r_l r_c, e = .returned (.slice r_b r_l r_c) ∧ R r_b r_l r_c w'
theorem store_encRec.Call.mono {r_0 r_1 r_2} {w : World} {R R' : Option Addr → Nat → Nat → World → Prop} (h : store_encRec.Call r_0 r_1 r_2 w R) (hr : ∀ r_b r_l r_c w', R r_b r_l r_c w' → R' r_b r_l r_c w') : store_encRec.Call r_0 r_1 r_2 w R' :=
  Calls.mono h fun e w' he => by
    obtain ⟨r_b, r_l, r_c, h1, h2⟩ := he
    exact ⟨r_b, r_l, r_c, h1, hr r_b r_l r_c w' h2⟩
def store_encRec.RV (R : Option Addr → Nat → Nat → World → Prop) (v : Value) (w : World) : Prop := match v with
  | .slice r_b r_l r_c => R r_b r_l r_c w
  | _ => False
theorem store_encRec.RV_elim {R : Option Addr → Nat → Nat → World → Prop} {v : Value} {w : World} (h : store_encRec.RV R v w) : ∃ r_b r_l r_c, Ending.returned v = .returned (.slice r_b r_l r_c) ∧ R r_b r_l r_c w := by
  unfold store_encRec.RV at h
  split at h
  · exact ⟨_, _, _, rfl, h⟩
  · exact h.elim
/-- e2e/store.chunk -/
def store_chunk.Call (data : ByteArray) (k : Int) (w : World) (R : ByteArray → World → Prop) : Prop :=
  Calls Try.prog 99 #[.string data, .int .i64 k] w fun e w' => ∃ r, e = .returned (.string r) ∧ R r w'
theorem store_chunk.Call.mono {data k} {w : World} {R R' : ByteArray → World → Prop} (h : store_chunk.Call data k w R) (hr : ∀ r w', R r w' → R' r w') : store_chunk.Call data k w R' :=
  Calls.mono h fun e w' he => by
    obtain ⟨r, h1, h2⟩ := he
    exact ⟨r, h1, hr r w' h2⟩
def store_chunk.RV (R : ByteArray → World → Prop) (v : Value) (w : World) : Prop := match v with
  | .string r => R r w
  | _ => False
theorem store_chunk.RV_elim {R : ByteArray → World → Prop} {v : Value} {w : World} (h : store_chunk.RV R v w) : ∃ r, Ending.returned v = .returned (.string r) ∧ R r w := by
  unfold store_chunk.RV at h
  split at h
  · exact ⟨_, rfl, h⟩
  · exact h.elim
/-- (*e2e/diskm.Disk).Write -/
def diskm_Disk_Write.Call (d : Option Addr) (b : Int) (x : ByteArray) (w : World) (R : Int → World → Prop) : Prop :=
  Calls Try.prog 100 #[.pointer d, .int .i64 b, .string x] w fun e w' => ∃ r, e = .returned (.int .i64 r) ∧ R r w'
theorem diskm_Disk_Write.Call.mono {d b x} {w : World} {R R' : Int → World → Prop} (h : diskm_Disk_Write.Call d b x w R) (hr : ∀ r w', R r w' → R' r w') : diskm_Disk_Write.Call d b x w R' :=
  Calls.mono h fun e w' he => by
    obtain ⟨r, h1, h2⟩ := he
    exact ⟨r, h1, hr r w' h2⟩
def diskm_Disk_Write.RV (R : Int → World → Prop) (v : Value) (w : World) : Prop := match v with
  | .int .i64 r => R r w
  | _ => False
theorem diskm_Disk_Write.RV_elim {R : Int → World → Prop} {v : Value} {w : World} (h : diskm_Disk_Write.RV R v w) : ∃ r, Ending.returned v = .returned (.int .i64 r) ∧ R r w := by
  unfold diskm_Disk_Write.RV at h
  split at h
  · exact ⟨_, rfl, h⟩
  · exact h.elim
/-- e2e/store.encHead -/
def store_encHead.Call (h0_0 : Bool) (h0_1 h0_2 h0_3 h0_4 h0_5 : Int) (w : World) (R : Option Addr → Nat → Nat → World → Prop) : Prop :=
  Calls Try.prog 101 #[.agg #[.bool h0_0, .int .i64 h0_1, .int .i64 h0_2, .int .i64 h0_3, .int .i64 h0_4, .int .i64 h0_5]] w fun e w' => ∃ r_b r_l r_c, e = .returned (.slice r_b r_l r_c) ∧ R r_b r_l r_c w'
theorem store_encHead.Call.mono {h0_0 h0_1 h0_2 h0_3 h0_4 h0_5} {w : World} {R R' : Option Addr → Nat → Nat → World → Prop} (h : store_encHead.Call h0_0 h0_1 h0_2 h0_3 h0_4 h0_5 w R) (hr : ∀ r_b r_l r_c w', R r_b r_l r_c w' → R' r_b r_l r_c w') : store_encHead.Call h0_0 h0_1 h0_2 h0_3 h0_4 h0_5 w R' :=
  Calls.mono h fun e w' he => by
    obtain ⟨r_b, r_l, r_c, h1, h2⟩ := he
    exact ⟨r_b, r_l, r_c, h1, hr r_b r_l r_c w' h2⟩
def store_encHead.RV (R : Option Addr → Nat → Nat → World → Prop) (v : Value) (w : World) : Prop := match v with
  | .slice r_b r_l r_c => R r_b r_l r_c w
  | _ => False
theorem store_encHead.RV_elim {R : Option Addr → Nat → Nat → World → Prop} {v : Value} {w : World} (h : store_encHead.RV R v w) : ∃ r_b r_l r_c, Ending.returned v = .returned (.slice r_b r_l r_c) ∧ R r_b r_l r_c w := by
  unfold store_encHead.RV at h
  split at h
  · exact ⟨_, _, _, rfl, h⟩
  · exact h.elim
/-- e2e/store.next -/
def store_next.Call (old : Int) (w : World) (R : Int → World → Prop) : Prop :=
  Calls Try.prog 102 #[.int .u8 old] w fun e w' => ∃ r, e = .returned (.int .u8 r) ∧ R r w'
theorem store_next.Call.mono {old} {w : World} {R R' : Int → World → Prop} (h : store_next.Call old w R) (hr : ∀ r w', R r w' → R' r w') : store_next.Call old w R' :=
  Calls.mono h fun e w' he => by
    obtain ⟨r, h1, h2⟩ := he
    exact ⟨r, h1, hr r w' h2⟩
def store_next.RV (R : Int → World → Prop) (v : Value) (w : World) : Prop := match v with
  | .int .u8 r => R r w
  | _ => False
theorem store_next.RV_elim {R : Int → World → Prop} {v : Value} {w : World} (h : store_next.RV R v w) : ∃ r, Ending.returned v = .returned (.int .u8 r) ∧ R r w := by
  unfold store_next.RV at h
  split at h
  · exact ⟨_, rfl, h⟩
  · exact h.elim
/-- e2e/store.put8 -/
def store_put8.Call (b_b : Option Addr) (b_l b_c : Nat) (at0 v_1 : Int) (w : World) (R : Option Addr → Nat → Nat → World → Prop) : Prop :=
  Calls Try.prog 103 #[.slice b_b b_l b_c, .int .i64 at0, .int .i64 v_1] w fun e w' => ∃ r_b r_l r_c, e = .returned (.slice r_b r_l r_c) ∧ R r_b r_l r_c w'
theorem store_put8.Call.mono {b_b b_l b_c at0 v_1} {w : World} {R R' : Option Addr → Nat → Nat → World → Prop} (h : store_put8.Call b_b b_l b_c at0 v_1 w R) (hr : ∀ r_b r_l r_c w', R r_b r_l r_c w' → R' r_b r_l r_c w') : store_put8.Call b_b b_l b_c at0 v_1 w R' :=
  Calls.mono h fun e w' he => by
    obtain ⟨r_b, r_l, r_c, h1, h2⟩ := he
    exact ⟨r_b, r_l, r_c, h1, hr r_b r_l r_c w' h2⟩
def store_put8.RV (R : Option Addr → Nat → Nat → World → Prop) (v : Value) (w : World) : Prop := match v with
  | .slice r_b r_l r_c => R r_b r_l r_c w
  | _ => False
theorem store_put8.RV_elim {R : Option Addr → Nat → Nat → World → Prop} {v : Value} {w : World} (h : store_put8.RV R v w) : ∃ r_b r_l r_c, Ending.returned v = .returned (.slice r_b r_l r_c) ∧ R r_b r_l r_c w := by
  unfold store_put8.RV at h
  split at h
  · exact ⟨_, _, _, rfl, h⟩
  · exact h.elim
end Go.Proofs.Qxb6500431a
