import Derived.Test.Qxb6500432aProg
import Derived.Test.Qxb6500432aVcC
open Go.Vc
namespace Go.Proofs.Qxb6500432a
theorem Try.mixed : Try.prog.follows .mixedOrders = true := by kernel_rfl
abbrev T_int64 : TypeId := 2
abbrev T_int : TypeId := 3
abbrev T_bool : TypeId := 4
abbrev T_uint8 : TypeId := 5
abbrev T_string : TypeId := 9
abbrev T_uintptr : TypeId := 12
abbrev T_int32 : TypeId := 21
abbrev T_storelaw_Below : TypeId := 25
abbrev T_api_Op : TypeId := 29
abbrev T_api_Rec : TypeId := 38
abbrev T_api_Errno : TypeId := 39
abbrev T_store_meta : TypeId := 52
abbrev T_store_head : TypeId := 54
abbrev T_store_Store : TypeId := 58
abbrev T_diskm_Disk : TypeId := 80
abbrev T_diskm_half : TypeId := 83
abbrev T_storem_state : TypeId := 90
abbrev T_storem_Store : TypeId := 93
abbrev T_uint : TypeId := 101
abbrev T_uint32 : TypeId := 114
/-- e2e/storelaw.OpenTotal -/
def storelaw_OpenTotal.Call (script_b : Option Addr) (script_l script_c : Nat) (w : World) (R : Bool → World → Prop) : Prop :=
  Calls Try.prog 3 #[.slice script_b script_l script_c] w fun e w' => ∃ r, e = .returned (.bool r) ∧ R r w'
theorem storelaw_OpenTotal.Call.mono {script_b script_l script_c} {w : World} {R R' : Bool → World → Prop} (h : storelaw_OpenTotal.Call script_b script_l script_c w R) (hr : ∀ r w', R r w' → R' r w') : storelaw_OpenTotal.Call script_b script_l script_c w R' :=
  Calls.mono h fun e w' he => by
    obtain ⟨r, h1, h2⟩ := he
    exact ⟨r, h1, hr r w' h2⟩
def storelaw_OpenTotal.RV (R : Bool → World → Prop) (v : Value) (w : World) : Prop := match v with
  | .bool r => R r w
  | _ => False
theorem storelaw_OpenTotal.RV_elim {R : Bool → World → Prop} {v : Value} {w : World} (h : storelaw_OpenTotal.RV R v w) : ∃ r, Ending.returned v = .returned (.bool r) ∧ R r w := by
  unfold storelaw_OpenTotal.RV at h
  split at h
  · exact ⟨_, rfl, h⟩
  · exact h.elim
/-- e2e/storelaw.Refines -/
def storelaw_Refines.Call (script_b : Option Addr) (script_l script_c : Nat) (w : World) (R : Bool → World → Prop) : Prop :=
  Calls Try.prog 4 #[.slice script_b script_l script_c] w fun e w' => ∃ r, e = .returned (.bool r) ∧ R r w'
theorem storelaw_Refines.Call.mono {script_b script_l script_c} {w : World} {R R' : Bool → World → Prop} (h : storelaw_Refines.Call script_b script_l script_c w R) (hr : ∀ r w', R r w' → R' r w') : storelaw_Refines.Call script_b script_l script_c w R' :=
  Calls.mono h fun e w' he => by
    obtain ⟨r, h1, h2⟩ := he
    exact ⟨r, h1, hr r w' h2⟩
def storelaw_Refines.RV (R : Bool → World → Prop) (v : Value) (w : World) : Prop := match v with
  | .bool r => R r w
  | _ => False
theorem storelaw_Refines.RV_elim {R : Bool → World → Prop} {v : Value} {w : World} (h : storelaw_Refines.RV R v w) : ∃ r, Ending.returned v = .returned (.bool r) ∧ R r w := by
  unfold storelaw_Refines.RV at h
  split at h
  · exact ⟨_, rfl, h⟩
  · exact h.elim
/-- e2e/storelaw.RefinesSteady -/
def storelaw_RefinesSteady.Call (script_b : Option Addr) (script_l script_c : Nat) (w : World) (R : Bool → World → Prop) : Prop :=
  Calls Try.prog 5 #[.slice script_b script_l script_c] w fun e w' => ∃ r, e = .returned (.bool r) ∧ R r w'
theorem storelaw_RefinesSteady.Call.mono {script_b script_l script_c} {w : World} {R R' : Bool → World → Prop} (h : storelaw_RefinesSteady.Call script_b script_l script_c w R) (hr : ∀ r w', R r w' → R' r w') : storelaw_RefinesSteady.Call script_b script_l script_c w R' :=
  Calls.mono h fun e w' he => by
    obtain ⟨r, h1, h2⟩ := he
    exact ⟨r, h1, hr r w' h2⟩
def storelaw_RefinesSteady.RV (R : Bool → World → Prop) (v : Value) (w : World) : Prop := match v with
  | .bool r => R r w
  | _ => False
theorem storelaw_RefinesSteady.RV_elim {R : Bool → World → Prop} {v : Value} {w : World} (h : storelaw_RefinesSteady.RV R v w) : ∃ r, Ending.returned v = .returned (.bool r) ∧ R r w := by
  unfold storelaw_RefinesSteady.RV at h
  split at h
  · exact ⟨_, rfl, h⟩
  · exact h.elim
/-- e2e/storelaw.RefinesQuiet -/
def storelaw_RefinesQuiet.Call (script_b : Option Addr) (script_l script_c : Nat) (w : World) (R : Bool → World → Prop) : Prop :=
  Calls Try.prog 6 #[.slice script_b script_l script_c] w fun e w' => ∃ r, e = .returned (.bool r) ∧ R r w'
theorem storelaw_RefinesQuiet.Call.mono {script_b script_l script_c} {w : World} {R R' : Bool → World → Prop} (h : storelaw_RefinesQuiet.Call script_b script_l script_c w R) (hr : ∀ r w', R r w' → R' r w') : storelaw_RefinesQuiet.Call script_b script_l script_c w R' :=
  Calls.mono h fun e w' he => by
    obtain ⟨r, h1, h2⟩ := he
    exact ⟨r, h1, hr r w' h2⟩
def storelaw_RefinesQuiet.RV (R : Bool → World → Prop) (v : Value) (w : World) : Prop := match v with
  | .bool r => R r w
  | _ => False
theorem storelaw_RefinesQuiet.RV_elim {R : Bool → World → Prop} {v : Value} {w : World} (h : storelaw_RefinesQuiet.RV R v w) : ∃ r, Ending.returned v = .returned (.bool r) ∧ R r w := by
  unfold storelaw_RefinesQuiet.RV at h
  split at h
  · exact ⟨_, rfl, h⟩
  · exact h.elim
/-- e2e/storelaw.Ground -/
def storelaw_Ground.Call  (w : World) (R : Option Addr → World → Prop) : Prop :=
  Calls Try.prog 7 #[] w fun e w' => ∃ r_0, e = .returned (.agg #[.pointer r_0]) ∧ R r_0 w'
theorem storelaw_Ground.Call.mono {w : World} {R R' : Option Addr → World → Prop} (h : storelaw_Ground.Call w R) (hr : ∀ r_0 w', R r_0 w' → R' r_0 w') : storelaw_Ground.Call w R' :=
  Calls.mono h fun e w' he => by
    obtain ⟨r_0, h1, h2⟩ := he
    exact ⟨r_0, h1, hr r_0 w' h2⟩
def storelaw_Ground.RV (R : Option Addr → World → Prop) (v : Value) (w : World) : Prop := match v with
  | .agg ⟨[.pointer r_0]⟩ => R r_0 w
  | _ => False
theorem storelaw_Ground.RV_elim {R : Option Addr → World → Prop} {v : Value} {w : World} (h : storelaw_Ground.RV R v w) : ∃ r_0, Ending.returned v = .returned (.agg #[.pointer r_0]) ∧ R r_0 w := by
  unfold storelaw_Ground.RV at h
  split at h
  · exact ⟨_, rfl, h⟩
  · exact h.elim
/-- e2e/storelaw.Scribble -/
def storelaw_Scribble.Call (b_0 : Option Addr) (k : Int) (s : ByteArray) (w : World) (R : World → Prop) : Prop :=
  Calls Try.prog 8 #[.agg #[.pointer b_0], .int .i64 k, .string s] w fun e w' => e = .returned (.tuple #[]) ∧ R w'
theorem storelaw_Scribble.Call.mono {b_0 k s} {w : World} {R R' : World → Prop} (h : storelaw_Scribble.Call b_0 k s w R) (hr : ∀ w', R w' → R'  w') : storelaw_Scribble.Call b_0 k s w R' :=
  Calls.mono h fun e w' he => by
    obtain ⟨h1, h2⟩ := he
    exact ⟨h1, hr  w' h2⟩
def storelaw_Scribble.RV (R : World → Prop) (v : Value) (w : World) : Prop := match v with
  | .tuple ⟨[]⟩ => R w
  | _ => False
theorem storelaw_Scribble.RV_elim {R : World → Prop} {v : Value} {w : World} (h : storelaw_Scribble.RV R v w) : Ending.returned v = .returned (.tuple #[]) ∧ R w := by
  unfold storelaw_Scribble.RV at h
  split at h
  · exact ⟨rfl, h⟩
  · exact h.elim
/-- e2e/storelaw.Mark -/
def storelaw_Mark.Call (b_0 : Option Addr) (w : World) (R : World → Prop) : Prop :=
  Calls Try.prog 9 #[.agg #[.pointer b_0]] w fun e w' => e = .returned (.tuple #[]) ∧ R w'
theorem storelaw_Mark.Call.mono {b_0} {w : World} {R R' : World → Prop} (h : storelaw_Mark.Call b_0 w R) (hr : ∀ w', R w' → R'  w') : storelaw_Mark.Call b_0 w R' :=
  Calls.mono h fun e w' he => by
    obtain ⟨h1, h2⟩ := he
    exact ⟨h1, hr  w' h2⟩
def storelaw_Mark.RV (R : World → Prop) (v : Value) (w : World) : Prop := match v with
  | .tuple ⟨[]⟩ => R w
  | _ => False
theorem storelaw_Mark.RV_elim {R : World → Prop} {v : Value} {w : World} (h : storelaw_Mark.RV R v w) : Ending.returned v = .returned (.tuple #[]) ∧ R w := by
  unfold storelaw_Mark.RV at h
  split at h
  · exact ⟨rfl, h⟩
  · exact h.elim
/-- e2e/store.Open -/
def store_Open.Call (d : Option Addr) (w : World) (R : Option Addr → World → Prop) : Prop :=
  Calls Try.prog 10 #[.pointer d] w fun e w' => ∃ r, e = .returned (.pointer r) ∧ R r w'
theorem store_Open.Call.mono {d} {w : World} {R R' : Option Addr → World → Prop} (h : store_Open.Call d w R) (hr : ∀ r w', R r w' → R' r w') : store_Open.Call d w R' :=
  Calls.mono h fun e w' he => by
    obtain ⟨r, h1, h2⟩ := he
    exact ⟨r, h1, hr r w' h2⟩
def store_Open.RV (R : Option Addr → World → Prop) (v : Value) (w : World) : Prop := match v with
  | .pointer r => R r w
  | _ => False
theorem store_Open.RV_elim {R : Option Addr → World → Prop} {v : Value} {w : World} (h : store_Open.RV R v w) : ∃ r, Ending.returned v = .returned (.pointer r) ∧ R r w := by
  unfold store_Open.RV at h
  split at h
  · exact ⟨_, rfl, h⟩
  · exact h.elim
/-- (*e2e/store.Store).Meta -/
def store_Store_Meta.Call (t : Option Addr) (w : World) (R : Int → Int → World → Prop) : Prop :=
  Calls Try.prog 11 #[.pointer t] w fun e w' => ∃ r0 r1, e = .returned (.tuple #[.int .i64 r0, .int .i64 r1]) ∧ R r0 r1 w'
theorem store_Store_Meta.Call.mono {t} {w : World} {R R' : Int → Int → World → Prop} (h : store_Store_Meta.Call t w R) (hr : ∀ r0 r1 w', R r0 r1 w' → R' r0 r1 w') : store_Store_Meta.Call t w R' :=
  Calls.mono h fun e w' he => by
    obtain ⟨r0, r1, h1, h2⟩ := he
    exact ⟨r0, r1, h1, hr r0 r1 w' h2⟩
def store_Store_Meta.RV (R : Int → Int → World → Prop) (v : Value) (w : World) : Prop := match v with
  | .tuple ⟨[.int .i64 r0, .int .i64 r1]⟩ => R r0 r1 w
  | _ => False
theorem store_Store_Meta.RV_elim {R : Int → Int → World → Prop} {v : Value} {w : World} (h : store_Store_Meta.RV R v w) : ∃ r0 r1, Ending.returned v = .returned (.tuple #[.int .i64 r0, .int .i64 r1]) ∧ R r0 r1 w := by
  unfold store_Store_Meta.RV at h
  split at h
  · exact ⟨_, _, rfl, h⟩
  · exact h.elim
/-- (*e2e/store.Store).Snap -/
def store_Store_Snap.Call (t : Option Addr) (w : World) (R : Int → Int → ByteArray → World → Prop) : Prop :=
  Calls Try.prog 12 #[.pointer t] w fun e w' => ∃ r0 r1 r2, e = .returned (.tuple #[.int .i64 r0, .int .i64 r1, .string r2]) ∧ R r0 r1 r2 w'
theorem store_Store_Snap.Call.mono {t} {w : World} {R R' : Int → Int → ByteArray → World → Prop} (h : store_Store_Snap.Call t w R) (hr : ∀ r0 r1 r2 w', R r0 r1 r2 w' → R' r0 r1 r2 w') : store_Store_Snap.Call t w R' :=
  Calls.mono h fun e w' he => by
    obtain ⟨r0, r1, r2, h1, h2⟩ := he
    exact ⟨r0, r1, r2, h1, hr r0 r1 r2 w' h2⟩
def store_Store_Snap.RV (R : Int → Int → ByteArray → World → Prop) (v : Value) (w : World) : Prop := match v with
  | .tuple ⟨[.int .i64 r0, .int .i64 r1, .string r2]⟩ => R r0 r1 r2 w
  | _ => False
theorem store_Store_Snap.RV_elim {R : Int → Int → ByteArray → World → Prop} {v : Value} {w : World} (h : store_Store_Snap.RV R v w) : ∃ r0 r1 r2, Ending.returned v = .returned (.tuple #[.int .i64 r0, .int .i64 r1, .string r2]) ∧ R r0 r1 r2 w := by
  unfold store_Store_Snap.RV at h
  split at h
  · exact ⟨_, _, _, rfl, h⟩
  · exact h.elim
/-- (*e2e/store.Store).Rec -/
def store_Store_Rec.Call (t : Option Addr) (slot : Int) (w : World) (R : Int → Int → ByteArray → Int → World → Prop) : Prop :=
  Calls Try.prog 13 #[.pointer t, .int .i64 slot] w fun e w' => ∃ r0_0 r0_1 r0_2 r1, e = .returned (.tuple #[.agg #[.int .i64 r0_0, .int .i64 r0_1, .string r0_2], .int .i64 r1]) ∧ R r0_0 r0_1 r0_2 r1 w'
theorem store_Store_Rec.Call.mono {t slot} {w : World} {R R' : Int → Int → ByteArray → Int → World → Prop} (h : store_Store_Rec.Call t slot w R) (hr : ∀ r0_0 r0_1 r0_2 r1 w', R r0_0 r0_1 r0_2 r1 w' → R' r0_0 r0_1 r0_2 r1 w') : store_Store_Rec.Call t slot w R' :=
  Calls.mono h fun e w' he => by
    obtain ⟨r0_0, r0_1, r0_2, r1, h1, h2⟩ := he
    exact ⟨r0_0, r0_1, r0_2, r1, h1, hr r0_0 r0_1 r0_2 r1 w' h2⟩
def store_Store_Rec.RV (R : Int → Int → ByteArray → Int → World → Prop) (v : Value) (w : World) : Prop := match v with
  | .tuple ⟨[.agg ⟨[.int .i64 r0_0, .int .i64 r0_1, .string r0_2]⟩, .int .i64 r1]⟩ => R r0_0 r0_1 r0_2 r1 w
  | _ => False
theorem store_Store_Rec.RV_elim {R : Int → Int → ByteArray → Int → World → Prop} {v : Value} {w : World} (h : store_Store_Rec.RV R v w) : ∃ r0_0 r0_1 r0_2 r1, Ending.returned v = .returned (.tuple #[.agg #[.int .i64 r0_0, .int .i64 r0_1, .string r0_2], .int .i64 r1]) ∧ R r0_0 r0_1 r0_2 r1 w := by
  unfold store_Store_Rec.RV at h
  split at h
  · exact ⟨_, _, _, _, rfl, h⟩
  · exact h.elim
/-- (*e2e/store.Store).Check -/
def store_Store_Check.Call (t : Option Addr) (w : World) (R : ByteArray → World → Prop) : Prop :=
  Calls Try.prog 14 #[.pointer t] w fun e w' => ∃ r, e = .returned (.string r) ∧ R r w'
theorem store_Store_Check.Call.mono {t} {w : World} {R R' : ByteArray → World → Prop} (h : store_Store_Check.Call t w R) (hr : ∀ r w', R r w' → R' r w') : store_Store_Check.Call t w R' :=
  Calls.mono h fun e w' he => by
    obtain ⟨r, h1, h2⟩ := he
    exact ⟨r, h1, hr r w' h2⟩
def store_Store_Check.RV (R : ByteArray → World → Prop) (v : Value) (w : World) : Prop := match v with
  | .string r => R r w
  | _ => False
theorem store_Store_Check.RV_elim {R : ByteArray → World → Prop} {v : Value} {w : World} (h : store_Store_Check.RV R v w) : ∃ r, Ending.returned v = .returned (.string r) ∧ R r w := by
  unfold store_Store_Check.RV at h
  split at h
  · exact ⟨_, rfl, h⟩
  · exact h.elim
/-- e2e/storelaw.Steps -/
def storelaw_Steps.Call (b_0 : Option Addr) (w : World) (R : Int → World → Prop) : Prop :=
  Calls Try.prog 15 #[.agg #[.pointer b_0]] w fun e w' => ∃ r, e = .returned (.int .i64 r) ∧ R r w'
theorem storelaw_Steps.Call.mono {b_0} {w : World} {R R' : Int → World → Prop} (h : storelaw_Steps.Call b_0 w R) (hr : ∀ r w', R r w' → R' r w') : storelaw_Steps.Call b_0 w R' :=
  Calls.mono h fun e w' he => by
    obtain ⟨r, h1, h2⟩ := he
    exact ⟨r, h1, hr r w' h2⟩
def storelaw_Steps.RV (R : Int → World → Prop) (v : Value) (w : World) : Prop := match v with
  | .int .i64 r => R r w
  | _ => False
theorem storelaw_Steps.RV_elim {R : Int → World → Prop} {v : Value} {w : World} (h : storelaw_Steps.RV R v w) : ∃ r, Ending.returned v = .returned (.int .i64 r) ∧ R r w := by
  unfold storelaw_Steps.RV at h
  split at h
  · exact ⟨_, rfl, h⟩
  · exact h.elim
/-- e2e/storelaw.RefinesUpTo -/
def storelaw_RefinesUpTo.Call (script_b : Option Addr) (script_l script_c : Nat) (w : World) (R : Int → World → Prop) : Prop :=
  Calls Try.prog 16 #[.slice script_b script_l script_c] w fun e w' => ∃ r, e = .returned (.int .i64 r) ∧ R r w'
theorem storelaw_RefinesUpTo.Call.mono {script_b script_l script_c} {w : World} {R R' : Int → World → Prop} (h : storelaw_RefinesUpTo.Call script_b script_l script_c w R) (hr : ∀ r w', R r w' → R' r w') : storelaw_RefinesUpTo.Call script_b script_l script_c w R' :=
  Calls.mono h fun e w' he => by
    obtain ⟨r, h1, h2⟩ := he
    exact ⟨r, h1, hr r w' h2⟩
def storelaw_RefinesUpTo.RV (R : Int → World → Prop) (v : Value) (w : World) : Prop := match v with
  | .int .i64 r => R r w
  | _ => False
theorem storelaw_RefinesUpTo.RV_elim {R : Int → World → Prop} {v : Value} {w : World} (h : storelaw_RefinesUpTo.RV R v w) : ∃ r, Ending.returned v = .returned (.int .i64 r) ∧ R r w := by
  unfold storelaw_RefinesUpTo.RV at h
  split at h
  · exact ⟨_, rfl, h⟩
  · exact h.elim
/-- e2e/storelaw.walk -/
def storelaw_walk.Call (script_b : Option Addr) (script_l script_c : Nat) (steady quiet : Bool) (w : World) (R : Int → Int → World → Prop) : Prop :=
  Calls Try.prog 17 #[.slice script_b script_l script_c, .bool steady, .bool quiet] w fun e w' => ∃ r0 r1, e = .returned (.tuple #[.int .i64 r0, .int .i64 r1]) ∧ R r0 r1 w'
theorem storelaw_walk.Call.mono {script_b script_l script_c steady quiet} {w : World} {R R' : Int → Int → World → Prop} (h : storelaw_walk.Call script_b script_l script_c steady quiet w R) (hr : ∀ r0 r1 w', R r0 r1 w' → R' r0 r1 w') : storelaw_walk.Call script_b script_l script_c steady quiet w R' :=
  Calls.mono h fun e w' he => by
    obtain ⟨r0, r1, h1, h2⟩ := he
    exact ⟨r0, r1, h1, hr r0 r1 w' h2⟩
def storelaw_walk.RV (R : Int → Int → World → Prop) (v : Value) (w : World) : Prop := match v with
  | .tuple ⟨[.int .i64 r0, .int .i64 r1]⟩ => R r0 r1 w
  | _ => False
theorem storelaw_walk.RV_elim {R : Int → Int → World → Prop} {v : Value} {w : World} (h : storelaw_walk.RV R v w) : ∃ r0 r1, Ending.returned v = .returned (.tuple #[.int .i64 r0, .int .i64 r1]) ∧ R r0 r1 w := by
  unfold storelaw_walk.RV at h
  split at h
  · exact ⟨_, _, rfl, h⟩
  · exact h.elim
/-- e2e/diskm.New -/
def diskm_New.Call  (w : World) (R : Option Addr → World → Prop) : Prop :=
  Calls Try.prog 18 #[] w fun e w' => ∃ r, e = .returned (.pointer r) ∧ R r w'
theorem diskm_New.Call.mono {w : World} {R R' : Option Addr → World → Prop} (h : diskm_New.Call w R) (hr : ∀ r w', R r w' → R' r w') : diskm_New.Call w R' :=
  Calls.mono h fun e w' he => by
    obtain ⟨r, h1, h2⟩ := he
    exact ⟨r, h1, hr r w' h2⟩
def diskm_New.RV (R : Option Addr → World → Prop) (v : Value) (w : World) : Prop := match v with
  | .pointer r => R r w
  | _ => False
theorem diskm_New.RV_elim {R : Option Addr → World → Prop} {v : Value} {w : World} (h : diskm_New.RV R v w) : ∃ r, Ending.returned v = .returned (.pointer r) ∧ R r w := by
  unfold diskm_New.RV at h
  split at h
  · exact ⟨_, rfl, h⟩
  · exact h.elim
/-- (*e2e/diskm.Disk).Write -/
def diskm_Disk_Write.Call (d : Option Addr) (b : Int) (x : ByteArray) (w : World) (R : Int → World → Prop) : Prop :=
  Calls Try.prog 19 #[.pointer d, .int .i64 b, .string x] w fun e w' => ∃ r, e = .returned (.int .i64 r) ∧ R r w'
theorem diskm_Disk_Write.Call.mono {d b x} {w : World} {R R' : Int → World → Prop} (h : diskm_Disk_Write.Call d b x w R) (hr : ∀ r w', R r w' → R' r w') : diskm_Disk_Write.Call d b x w R' :=
  Calls.mono h fun e w' he => by
    obtain ⟨r, h1, h2⟩ := he
    exact ⟨r, h1, hr r w' h2⟩
def diskm_Disk_Write.RV (R : Int → World → Prop) (v : Value) (w : World) : Prop := match v with
  | .int .i64 r => R r w
  | _ => False
theorem diskm_Disk_Write.RV_elim {R : Int → World → Prop} {v : Value} {w : World} (h : diskm_Disk_Write.RV R v w) : ∃ r, Ending.returned v = .returned (.int .i64 r) ∧ R r w := by
  unfold diskm_Disk_Write.RV at h
  split at h
  · exact ⟨_, rfl, h⟩
  · exact h.elim
/-- (*e2e/diskm.Disk).Mark -/
def diskm_Disk_Mark.Call (d : Option Addr) (w : World) (R : World → Prop) : Prop :=
  Calls Try.prog 20 #[.pointer d] w fun e w' => e = .returned (.tuple #[]) ∧ R w'
theorem diskm_Disk_Mark.Call.mono {d} {w : World} {R R' : World → Prop} (h : diskm_Disk_Mark.Call d w R) (hr : ∀ w', R w' → R'  w') : diskm_Disk_Mark.Call d w R' :=
  Calls.mono h fun e w' he => by
    obtain ⟨h1, h2⟩ := he
    exact ⟨h1, hr  w' h2⟩
def diskm_Disk_Mark.RV (R : World → Prop) (v : Value) (w : World) : Prop := match v with
  | .tuple ⟨[]⟩ => R w
  | _ => False
theorem diskm_Disk_Mark.RV_elim {R : World → Prop} {v : Value} {w : World} (h : diskm_Disk_Mark.RV R v w) : Ending.returned v = .returned (.tuple #[]) ∧ R w := by
  unfold diskm_Disk_Mark.RV at h
  split at h
  · exact ⟨rfl, h⟩
  · exact h.elim
/-- (*e2e/store.Store).read -/
def store_Store_read.Call (t : Option Addr) (b : Int) (w : World) (R : ByteArray → World → Prop) : Prop :=
  Calls Try.prog 21 #[.pointer t, .int .i64 b] w fun e w' => ∃ r, e = .returned (.string r) ∧ R r w'
theorem store_Store_read.Call.mono {t b} {w : World} {R R' : ByteArray → World → Prop} (h : store_Store_read.Call t b w R) (hr : ∀ r w', R r w' → R' r w') : store_Store_read.Call t b w R' :=
  Calls.mono h fun e w' he => by
    obtain ⟨r, h1, h2⟩ := he
    exact ⟨r, h1, hr r w' h2⟩
def store_Store_read.RV (R : ByteArray → World → Prop) (v : Value) (w : World) : Prop := match v with
  | .string r => R r w
  | _ => False
theorem store_Store_read.RV_elim {R : ByteArray → World → Prop} {v : Value} {w : World} (h : store_Store_read.RV R v w) : ∃ r, Ending.returned v = .returned (.string r) ∧ R r w := by
  unfold store_Store_read.RV at h
  split at h
  · exact ⟨_, rfl, h⟩
  · exact h.elim
/-- e2e/store.decMeta -/
def store_decMeta.Call (b : ByteArray) (w : World) (R : Bool → Int → Int → Int → World → Prop) : Prop :=
  Calls Try.prog 22 #[.string b] w fun e w' => ∃ r_0 r_1 r_2 r_3, e = .returned (.agg #[.bool r_0, .int .i64 r_1, .int .i64 r_2, .int .i64 r_3]) ∧ R r_0 r_1 r_2 r_3 w'
theorem store_decMeta.Call.mono {b} {w : World} {R R' : Bool → Int → Int → Int → World → Prop} (h : store_decMeta.Call b w R) (hr : ∀ r_0 r_1 r_2 r_3 w', R r_0 r_1 r_2 r_3 w' → R' r_0 r_1 r_2 r_3 w') : store_decMeta.Call b w R' :=
  Calls.mono h fun e w' he => by
    obtain ⟨r_0, r_1, r_2, r_3, h1, h2⟩ := he
    exact ⟨r_0, r_1, r_2, r_3, h1, hr r_0 r_1 r_2 r_3 w' h2⟩
def store_decMeta.RV (R : Bool → Int → Int → Int → World → Prop) (v : Value) (w : World) : Prop := match v with
  | .agg ⟨[.bool r_0, .int .i64 r_1, .int .i64 r_2, .int .i64 r_3]⟩ => R r_0 r_1 r_2 r_3 w
  | _ => False
theorem store_decMeta.RV_elim {R : Bool → Int → Int → Int → World → Prop} {v : Value} {w : World} (h : store_decMeta.RV R v w) : ∃ r_0 r_1 r_2 r_3, Ending.returned v = .returned (.agg #[.bool r_0, .int .i64 r_1, .int .i64 r_2, .int .i64 r_3]) ∧ R r_0 r_1 r_2 r_3 w := by
  unfold store_decMeta.RV at h
  split at h
  · exact ⟨_, _, _, _, rfl, h⟩
  · exact h.elim
/-- e2e/store.decHead -/
def store_decHead.Call (b : ByteArray) (w : World) (R : Bool → Int → Int → Int → Int → Int → World → Prop) : Prop :=
  Calls Try.prog 23 #[.string b] w fun e w' => ∃ r_0 r_1 r_2 r_3 r_4 r_5, e = .returned (.agg #[.bool r_0, .int .i64 r_1, .int .i64 r_2, .int .i64 r_3, .int .i64 r_4, .int .i64 r_5]) ∧ R r_0 r_1 r_2 r_3 r_4 r_5 w'
theorem store_decHead.Call.mono {b} {w : World} {R R' : Bool → Int → Int → Int → Int → Int → World → Prop} (h : store_decHead.Call b w R) (hr : ∀ r_0 r_1 r_2 r_3 r_4 r_5 w', R r_0 r_1 r_2 r_3 r_4 r_5 w' → R' r_0 r_1 r_2 r_3 r_4 r_5 w') : store_decHead.Call b w R' :=
  Calls.mono h fun e w' he => by
    obtain ⟨r_0, r_1, r_2, r_3, r_4, r_5, h1, h2⟩ := he
    exact ⟨r_0, r_1, r_2, r_3, r_4, r_5, h1, hr r_0 r_1 r_2 r_3 r_4 r_5 w' h2⟩
def store_decHead.RV (R : Bool → Int → Int → Int → Int → Int → World → Prop) (v : Value) (w : World) : Prop := match v with
  | .agg ⟨[.bool r_0, .int .i64 r_1, .int .i64 r_2, .int .i64 r_3, .int .i64 r_4, .int .i64 r_5]⟩ => R r_0 r_1 r_2 r_3 r_4 r_5 w
  | _ => False
theorem store_decHead.RV_elim {R : Bool → Int → Int → Int → Int → Int → World → Prop} {v : Value} {w : World} (h : store_decHead.RV R v w) : ∃ r_0 r_1 r_2 r_3 r_4 r_5, Ending.returned v = .returned (.agg #[.bool r_0, .int .i64 r_1, .int .i64 r_2, .int .i64 r_3, .int .i64 r_4, .int .i64 r_5]) ∧ R r_0 r_1 r_2 r_3 r_4 r_5 w := by
  unfold store_decHead.RV at h
  split at h
  · exact ⟨_, _, _, _, _, _, rfl, h⟩
  · exact h.elim
/-- (*e2e/store.Store).area -/
def store_Store_area.Call (t : Option Addr) (a n : Int) (w : World) (R : ByteArray → World → Prop) : Prop :=
  Calls Try.prog 24 #[.pointer t, .int .i64 a, .int .i64 n] w fun e w' => ∃ r, e = .returned (.string r) ∧ R r w'
theorem store_Store_area.Call.mono {t a n} {w : World} {R R' : ByteArray → World → Prop} (h : store_Store_area.Call t a n w R) (hr : ∀ r w', R r w' → R' r w') : store_Store_area.Call t a n w R' :=
  Calls.mono h fun e w' he => by
    obtain ⟨r, h1, h2⟩ := he
    exact ⟨r, h1, hr r w' h2⟩
def store_Store_area.RV (R : ByteArray → World → Prop) (v : Value) (w : World) : Prop := match v with
  | .string r => R r w
  | _ => False
theorem store_Store_area.RV_elim {R : ByteArray → World → Prop} {v : Value} {w : World} (h : store_Store_area.RV R v w) : ∃ r, Ending.returned v = .returned (.string r) ∧ R r w := by
  unfold store_Store_area.RV at h
  split at h
  · exact ⟨_, rfl, h⟩
  · exact h.elim
/-- e2e/store.decRec -/
def store_decRec.Call (b : ByteArray) (w : World) (R : Int → Int → ByteArray → Bool → World → Prop) : Prop :=
  Calls Try.prog 25 #[.string b] w fun e w' => ∃ r0_0 r0_1 r0_2 r1, e = .returned (.tuple #[.agg #[.int .i64 r0_0, .int .i64 r0_1, .string r0_2], .bool r1]) ∧ R r0_0 r0_1 r0_2 r1 w'
theorem store_decRec.Call.mono {b} {w : World} {R R' : Int → Int → ByteArray → Bool → World → Prop} (h : store_decRec.Call b w R) (hr : ∀ r0_0 r0_1 r0_2 r1 w', R r0_0 r0_1 r0_2 r1 w' → R' r0_0 r0_1 r0_2 r1 w') : store_decRec.Call b w R' :=
  Calls.mono h fun e w' he => by
    obtain ⟨r0_0, r0_1, r0_2, r1, h1, h2⟩ := he
    exact ⟨r0_0, r0_1, r0_2, r1, h1, hr r0_0 r0_1 r0_2 r1 w' h2⟩
def store_decRec.RV (R : Int → Int → ByteArray → Bool → World → Prop) (v : Value) (w : World) : Prop := match v with
  | .tuple ⟨[.agg ⟨[.int .i64 r0_0, .int .i64 r0_1, .string r0_2]⟩, .bool r1]⟩ => R r0_0 r0_1 r0_2 r1 w
  | _ => False
theorem store_decRec.RV_elim {R : Int → Int → ByteArray → Bool → World → Prop} {v : Value} {w : World} (h : store_decRec.RV R v w) : ∃ r0_0 r0_1 r0_2 r1, Ending.returned v = .returned (.tuple #[.agg #[.int .i64 r0_0, .int .i64 r0_1, .string r0_2], .bool r1]) ∧ R r0_0 r0_1 r0_2 r1 w := by
  unfold store_decRec.RV at h
  split at h
  · exact ⟨_, _, _, _, rfl, h⟩
  · exact h.elim
/-- e2e/store.sameMeta -/
def store_sameMeta.Call (a_0 : Bool) (a_1 a_2 a_3 : Int) (b_0 : Bool) (b_1 b_2 b_3 : Int) (w : World) (R : Bool → World → Prop) : Prop :=
  Calls Try.prog 26 #[.agg #[.bool a_0, .int .i64 a_1, .int .i64 a_2, .int .i64 a_3], .agg #[.bool b_0, .int .i64 b_1, .int .i64 b_2, .int .i64 b_3]] w fun e w' => ∃ r, e = .returned (.bool r) ∧ R r w'
theorem store_sameMeta.Call.mono {a_0 a_1 a_2 a_3 b_0 b_1 b_2 b_3} {w : World} {R R' : Bool → World → Prop} (h : store_sameMeta.Call a_0 a_1 a_2 a_3 b_0 b_1 b_2 b_3 w R) (hr : ∀ r w', R r w' → R' r w') : store_sameMeta.Call a_0 a_1 a_2 a_3 b_0 b_1 b_2 b_3 w R' :=
  Calls.mono h fun e w' he => by
    obtain ⟨r, h1, h2⟩ := he
    exact ⟨r, h1, hr r w' h2⟩
def store_sameMeta.RV (R : Bool → World → Prop) (v : Value) (w : World) : Prop := match v with
  | .bool r => R r w
  | _ => False
theorem store_sameMeta.RV_elim {R : Bool → World → Prop} {v : Value} {w : World} (h : store_sameMeta.RV R v w) : ∃ r, Ending.returned v = .returned (.bool r) ∧ R r w := by
  unfold store_sameMeta.RV at h
  split at h
  · exact ⟨_, rfl, h⟩
  · exact h.elim
/-- e2e/store.sameHead -/
def store_sameHead.Call (a_0 : Bool) (a_1 a_2 a_3 a_4 a_5 : Int) (b_0 : Bool) (b_1 b_2 b_3 b_4 b_5 : Int) (w : World) (R : Bool → World → Prop) : Prop :=
  Calls Try.prog 27 #[.agg #[.bool a_0, .int .i64 a_1, .int .i64 a_2, .int .i64 a_3, .int .i64 a_4, .int .i64 a_5], .agg #[.bool b_0, .int .i64 b_1, .int .i64 b_2, .int .i64 b_3, .int .i64 b_4, .int .i64 b_5]] w fun e w' => ∃ r, e = .returned (.bool r) ∧ R r w'
theorem store_sameHead.Call.mono {a_0 a_1 a_2 a_3 a_4 a_5 b_0 b_1 b_2 b_3 b_4 b_5} {w : World} {R R' : Bool → World → Prop} (h : store_sameHead.Call a_0 a_1 a_2 a_3 a_4 a_5 b_0 b_1 b_2 b_3 b_4 b_5 w R) (hr : ∀ r w', R r w' → R' r w') : store_sameHead.Call a_0 a_1 a_2 a_3 a_4 a_5 b_0 b_1 b_2 b_3 b_4 b_5 w R' :=
  Calls.mono h fun e w' he => by
    obtain ⟨r, h1, h2⟩ := he
    exact ⟨r, h1, hr r w' h2⟩
def store_sameHead.RV (R : Bool → World → Prop) (v : Value) (w : World) : Prop := match v with
  | .bool r => R r w
  | _ => False
theorem store_sameHead.RV_elim {R : Bool → World → Prop} {v : Value} {w : World} (h : store_sameHead.RV R v w) : ∃ r, Ending.returned v = .returned (.bool r) ∧ R r w := by
  unfold store_sameHead.RV at h
  split at h
  · exact ⟨_, rfl, h⟩
  · exact h.elim
/-- (*e2e/diskm.Disk).Steps -/
def diskm_Disk_Steps.Call (d : Option Addr) (w : World) (R : Int → World → Prop) : Prop :=
  Calls Try.prog 28 #[.pointer d] w fun e w' => ∃ r, e = .returned (.int .i64 r) ∧ R r w'
theorem diskm_Disk_Steps.Call.mono {d} {w : World} {R R' : Int → World → Prop} (h : diskm_Disk_Steps.Call d w R) (hr : ∀ r w', R r w' → R' r w') : diskm_Disk_Steps.Call d w R' :=
  Calls.mono h fun e w' he => by
    obtain ⟨r, h1, h2⟩ := he
    exact ⟨r, h1, hr r w' h2⟩
def diskm_Disk_Steps.RV (R : Int → World → Prop) (v : Value) (w : World) : Prop := match v with
  | .int .i64 r => R r w
  | _ => False
theorem diskm_Disk_Steps.RV_elim {R : Int → World → Prop} {v : Value} {w : World} (h : diskm_Disk_Steps.RV R v w) : ∃ r, Ending.returned v = .returned (.int .i64 r) ∧ R r w := by
  unfold diskm_Disk_Steps.RV at h
  split at h
  · exact ⟨_, rfl, h⟩
  · exact h.elim
/-- e2e/store.New -/
def store_New.Call (d : Option Addr) (w : World) (R : Option Addr → World → Prop) : Prop :=
  Calls Try.prog 29 #[.pointer d] w fun e w' => ∃ r, e = .returned (.pointer r) ∧ R r w'
theorem store_New.Call.mono {d} {w : World} {R R' : Option Addr → World → Prop} (h : store_New.Call d w R) (hr : ∀ r w', R r w' → R' r w') : store_New.Call d w R' :=
  Calls.mono h fun e w' he => by
    obtain ⟨r, h1, h2⟩ := he
    exact ⟨r, h1, hr r w' h2⟩
def store_New.RV (R : Option Addr → World → Prop) (v : Value) (w : World) : Prop := match v with
  | .pointer r => R r w
  | _ => False
theorem store_New.RV_elim {R : Option Addr → World → Prop} {v : Value} {w : World} (h : store_New.RV R v w) : ∃ r, Ending.returned v = .returned (.pointer r) ∧ R r w := by
  unfold store_New.RV at h
  split at h
  · exact ⟨_, rfl, h⟩
  · exact h.elim
/-- e2e/storem.New -/
def storem_New.Call  (w : World) (R : Option Addr → World → Prop) : Prop :=
  Calls Try.prog 30 #[] w fun e w' => ∃ r, e = .returned (.pointer r) ∧ R r w'
theorem storem_New.Call.mono {w : World} {R R' : Option Addr → World → Prop} (h : storem_New.Call w R) (hr : ∀ r w', R r w' → R' r w') : storem_New.Call w R' :=
  Calls.mono h fun e w' he => by
    obtain ⟨r, h1, h2⟩ := he
    exact ⟨r, h1, hr r w' h2⟩
def storem_New.RV (R : Option Addr → World → Prop) (v : Value) (w : World) : Prop := match v with
  | .pointer r => R r w
  | _ => False
theorem storem_New.RV_elim {R : Option Addr → World → Prop} {v : Value} {w : World} (h : storem_New.RV R v w) : ∃ r, Ending.returned v = .returned (.pointer r) ∧ R r w := by
  unfold storem_New.RV at h
  split at h
  · exact ⟨_, rfl, h⟩
  · exact h.elim
/-- e2e/storelaw.Seen -/
def storelaw_Seen.Call (b_0 x m0 : Option Addr) (n : Int) (w : World) (R : Bool → World → Prop) : Prop :=
  Calls Try.prog 31 #[.agg #[.pointer b_0], .pointer x, .pointer m0, .int .i64 n] w fun e w' => ∃ r, e = .returned (.bool r) ∧ R r w'
theorem storelaw_Seen.Call.mono {b_0 x m0 n} {w : World} {R R' : Bool → World → Prop} (h : storelaw_Seen.Call b_0 x m0 n w R) (hr : ∀ r w', R r w' → R' r w') : storelaw_Seen.Call b_0 x m0 n w R' :=
  Calls.mono h fun e w' he => by
    obtain ⟨r, h1, h2⟩ := he
    exact ⟨r, h1, hr r w' h2⟩
def storelaw_Seen.RV (R : Bool → World → Prop) (v : Value) (w : World) : Prop := match v with
  | .bool r => R r w
  | _ => False
theorem storelaw_Seen.RV_elim {R : Bool → World → Prop} {v : Value} {w : World} (h : storelaw_Seen.RV R v w) : ∃ r, Ending.returned v = .returned (.bool r) ∧ R r w := by
  unfold storelaw_Seen.RV at h
  split at h
  · exact ⟨_, rfl, h⟩
  · exact h.elim
/-- (*e2e/storem.Store).Mark -/
def storem_Store_Mark.Call (t : Option Addr) (w : World) (R : World → Prop) : Prop :=
  Calls Try.prog 32 #[.pointer t] w fun e w' => e = .returned (.tuple #[]) ∧ R w'
theorem storem_Store_Mark.Call.mono {t} {w : World} {R R' : World → Prop} (h : storem_Store_Mark.Call t w R) (hr : ∀ w', R w' → R'  w') : storem_Store_Mark.Call t w R' :=
  Calls.mono h fun e w' he => by
    obtain ⟨h1, h2⟩ := he
    exact ⟨h1, hr  w' h2⟩
def storem_Store_Mark.RV (R : World → Prop) (v : Value) (w : World) : Prop := match v with
  | .tuple ⟨[]⟩ => R w
  | _ => False
theorem storem_Store_Mark.RV_elim {R : World → Prop} {v : Value} {w : World} (h : storem_Store_Mark.RV R v w) : Ending.returned v = .returned (.tuple #[]) ∧ R w := by
  unfold storem_Store_Mark.RV at h
  split at h
  · exact ⟨rfl, h⟩
  · exact h.elim
/-- e2e/storelaw.Play -/
def storelaw_Play.Call (x m0 : Option Addr) (o_0 o_1 o_2 o_3 : Int) (o_4 o_5 : ByteArray) (w : World) (R : Bool → Bool → World → Prop) : Prop :=
  Calls Try.prog 33 #[.pointer x, .pointer m0, .agg #[.int .i64 o_0, .int .i64 o_1, .int .i64 o_2, .int .i64 o_3, .string o_4, .string o_5]] w fun e w' => ∃ r0 r1, e = .returned (.tuple #[.bool r0, .bool r1]) ∧ R r0 r1 w'
theorem storelaw_Play.Call.mono {x m0 o_0 o_1 o_2 o_3 o_4 o_5} {w : World} {R R' : Bool → Bool → World → Prop} (h : storelaw_Play.Call x m0 o_0 o_1 o_2 o_3 o_4 o_5 w R) (hr : ∀ r0 r1 w', R r0 r1 w' → R' r0 r1 w') : storelaw_Play.Call x m0 o_0 o_1 o_2 o_3 o_4 o_5 w R' :=
  Calls.mono h fun e w' he => by
    obtain ⟨r0, r1, h1, h2⟩ := he
    exact ⟨r0, r1, h1, hr r0 r1 w' h2⟩
def storelaw_Play.RV (R : Bool → Bool → World → Prop) (v : Value) (w : World) : Prop := match v with
  | .tuple ⟨[.bool r0, .bool r1]⟩ => R r0 r1 w
  | _ => False
theorem storelaw_Play.RV_elim {R : Bool → Bool → World → Prop} {v : Value} {w : World} (h : storelaw_Play.RV R v w) : ∃ r0 r1, Ending.returned v = .returned (.tuple #[.bool r0, .bool r1]) ∧ R r0 r1 w := by
  unfold storelaw_Play.RV at h
  split at h
  · exact ⟨_, _, rfl, h⟩
  · exact h.elim
/-- e2e/storelaw.After -/
def storelaw_After.Call (b_0 : Option Addr) (k : Int) (w : World) (R : Option Addr → World → Prop) : Prop :=
  Calls Try.prog 34 #[.agg #[.pointer b_0], .int .i64 k] w fun e w' => ∃ r_0, e = .returned (.agg #[.pointer r_0]) ∧ R r_0 w'
theorem storelaw_After.Call.mono {b_0 k} {w : World} {R R' : Option Addr → World → Prop} (h : storelaw_After.Call b_0 k w R) (hr : ∀ r_0 w', R r_0 w' → R' r_0 w') : storelaw_After.Call b_0 k w R' :=
  Calls.mono h fun e w' he => by
    obtain ⟨r_0, h1, h2⟩ := he
    exact ⟨r_0, h1, hr r_0 w' h2⟩
def storelaw_After.RV (R : Option Addr → World → Prop) (v : Value) (w : World) : Prop := match v with
  | .agg ⟨[.pointer r_0]⟩ => R r_0 w
  | _ => False
theorem storelaw_After.RV_elim {R : Option Addr → World → Prop} {v : Value} {w : World} (h : storelaw_After.RV R v w) : ∃ r_0, Ending.returned v = .returned (.agg #[.pointer r_0]) ∧ R r_0 w := by
  unfold storelaw_After.RV at h
  split at h
  · exact ⟨_, rfl, h⟩
  · exact h.elim
/-- e2e/storelaw.Fits -/
def storelaw_Fits.Call (x m0 : Option Addr) (w : World) (R : Int → World → Prop) : Prop :=
  Calls Try.prog 35 #[.pointer x, .pointer m0] w fun e w' => ∃ r, e = .returned (.int .i64 r) ∧ R r w'
theorem storelaw_Fits.Call.mono {x m0} {w : World} {R R' : Int → World → Prop} (h : storelaw_Fits.Call x m0 w R) (hr : ∀ r w', R r w' → R' r w') : storelaw_Fits.Call x m0 w R' :=
  Calls.mono h fun e w' he => by
    obtain ⟨r, h1, h2⟩ := he
    exact ⟨r, h1, hr r w' h2⟩
def storelaw_Fits.RV (R : Int → World → Prop) (v : Value) (w : World) : Prop := match v with
  | .int .i64 r => R r w
  | _ => False
theorem storelaw_Fits.RV_elim {R : Int → World → Prop} {v : Value} {w : World} (h : storelaw_Fits.RV R v w) : ∃ r, Ending.returned v = .returned (.int .i64 r) ∧ R r w := by
  unfold storelaw_Fits.RV at h
  split at h
  · exact ⟨_, rfl, h⟩
  · exact h.elim
/-- (*e2e/storem.Store).Steps -/
def storem_Store_Steps.Call (t : Option Addr) (w : World) (R : Int → World → Prop) : Prop :=
  Calls Try.prog 36 #[.pointer t] w fun e w' => ∃ r, e = .returned (.int .i64 r) ∧ R r w'
theorem storem_Store_Steps.Call.mono {t} {w : World} {R R' : Int → World → Prop} (h : storem_Store_Steps.Call t w R) (hr : ∀ r w', R r w' → R' r w') : storem_Store_Steps.Call t w R' :=
  Calls.mono h fun e w' he => by
    obtain ⟨r, h1, h2⟩ := he
    exact ⟨r, h1, hr r w' h2⟩
def storem_Store_Steps.RV (R : Int → World → Prop) (v : Value) (w : World) : Prop := match v with
  | .int .i64 r => R r w
  | _ => False
theorem storem_Store_Steps.RV_elim {R : Int → World → Prop} {v : Value} {w : World} (h : storem_Store_Steps.RV R v w) : ∃ r, Ending.returned v = .returned (.int .i64 r) ∧ R r w := by
  unfold storem_Store_Steps.RV at h
  split at h
  · exact ⟨_, rfl, h⟩
  · exact h.elim
/-- (*e2e/storem.Store).After -/
def storem_Store_After.Call (t : Option Addr) (k : Int) (w : World) (R : Option Addr → World → Prop) : Prop :=
  Calls Try.prog 37 #[.pointer t, .int .i64 k] w fun e w' => ∃ r, e = .returned (.pointer r) ∧ R r w'
theorem storem_Store_After.Call.mono {t k} {w : World} {R R' : Option Addr → World → Prop} (h : storem_Store_After.Call t k w R) (hr : ∀ r w', R r w' → R' r w') : storem_Store_After.Call t k w R' :=
  Calls.mono h fun e w' he => by
    obtain ⟨r, h1, h2⟩ := he
    exact ⟨r, h1, hr r w' h2⟩
def storem_Store_After.RV (R : Option Addr → World → Prop) (v : Value) (w : World) : Prop := match v with
  | .pointer r => R r w
  | _ => False
theorem storem_Store_After.RV_elim {R : Option Addr → World → Prop} {v : Value} {w : World} (h : storem_Store_After.RV R v w) : ∃ r, Ending.returned v = .returned (.pointer r) ∧ R r w := by
  unfold storem_Store_After.RV at h
  split at h
  · exact ⟨_, rfl, h⟩
  · exact h.elim
/-- e2e/storelaw.Alike -/
def storelaw_Alike.Call (x m0 : Option Addr) (w : World) (R : Bool → World → Prop) : Prop :=
  Calls Try.prog 38 #[.pointer x, .pointer m0] w fun e w' => ∃ r, e = .returned (.bool r) ∧ R r w'
theorem storelaw_Alike.Call.mono {x m0} {w : World} {R R' : Bool → World → Prop} (h : storelaw_Alike.Call x m0 w R) (hr : ∀ r w', R r w' → R' r w') : storelaw_Alike.Call x m0 w R' :=
  Calls.mono h fun e w' he => by
    obtain ⟨r, h1, h2⟩ := he
    exact ⟨r, h1, hr r w' h2⟩
def storelaw_Alike.RV (R : Bool → World → Prop) (v : Value) (w : World) : Prop := match v with
  | .bool r => R r w
  | _ => False
theorem storelaw_Alike.RV_elim {R : Bool → World → Prop} {v : Value} {w : World} (h : storelaw_Alike.RV R v w) : ∃ r, Ending.returned v = .returned (.bool r) ∧ R r w := by
  unfold storelaw_Alike.RV at h
  split at h
  · exact ⟨_, rfl, h⟩
  · exact h.elim
/-- e2e/diskm.blocks -/
def diskm_blocks.Call (a_b : Option Addr) (a_l a_c : Nat) (w : World) (R : Option Addr → Nat → Nat → World → Prop) : Prop :=
  Calls Try.prog 39 #[.slice a_b a_l a_c] w fun e w' => ∃ r_b r_l r_c, e = .returned (.slice r_b r_l r_c) ∧ R r_b r_l r_c w'
theorem diskm_blocks.Call.mono {a_b a_l a_c} {w : World} {R R' : Option Addr → Nat → Nat → World → Prop} (h : diskm_blocks.Call a_b a_l a_c w R) (hr : ∀ r_b r_l r_c w', R r_b r_l r_c w' → R' r_b r_l r_c w') : diskm_blocks.Call a_b a_l a_c w R' :=
  Calls.mono h fun e w' he => by
    obtain ⟨r_b, r_l, r_c, h1, h2⟩ := he
    exact ⟨r_b, r_l, r_c, h1, hr r_b r_l r_c w' h2⟩
def diskm_blocks.RV (R : Option Addr → Nat → Nat → World → Prop) (v : Value) (w : World) : Prop := match v with
  | .slice r_b r_l r_c => R r_b r_l r_c w
  | _ => False
theorem diskm_blocks.RV_elim {R : Option Addr → Nat → Nat → World → Prop} {v : Value} {w : World} (h : diskm_blocks.RV R v w) : ∃ r_b r_l r_c, Ending.returned v = .returned (.slice r_b r_l r_c) ∧ R r_b r_l r_c w := by
  unfold diskm_blocks.RV at h
  split at h
  · exact ⟨_, _, _, rfl, h⟩
  · exact h.elim
/-- (*e2e/diskm.Disk).Read -/
def diskm_Disk_Read.Call (d : Option Addr) (b : Int) (w : World) (R : ByteArray → Int → World → Prop) : Prop :=
  Calls Try.prog 40 #[.pointer d, .int .i64 b] w fun e w' => ∃ r0 r1, e = .returned (.tuple #[.string r0, .int .i64 r1]) ∧ R r0 r1 w'
theorem diskm_Disk_Read.Call.mono {d b} {w : World} {R R' : ByteArray → Int → World → Prop} (h : diskm_Disk_Read.Call d b w R) (hr : ∀ r0 r1 w', R r0 r1 w' → R' r0 r1 w') : diskm_Disk_Read.Call d b w R' :=
  Calls.mono h fun e w' he => by
    obtain ⟨r0, r1, h1, h2⟩ := he
    exact ⟨r0, r1, h1, hr r0 r1 w' h2⟩
def diskm_Disk_Read.RV (R : ByteArray → Int → World → Prop) (v : Value) (w : World) : Prop := match v with
  | .tuple ⟨[.string r0, .int .i64 r1]⟩ => R r0 r1 w
  | _ => False
theorem diskm_Disk_Read.RV_elim {R : ByteArray → Int → World → Prop} {v : Value} {w : World} (h : diskm_Disk_Read.RV R v w) : ∃ r0 r1, Ending.returned v = .returned (.tuple #[.string r0, .int .i64 r1]) ∧ R r0 r1 w := by
  unfold diskm_Disk_Read.RV at h
  split at h
  · exact ⟨_, _, rfl, h⟩
  · exact h.elim
/-- e2e/store.whole -/
def store_whole.Call (b : ByteArray) (w : World) (R : Bool → World → Prop) : Prop :=
  Calls Try.prog 41 #[.string b] w fun e w' => ∃ r, e = .returned (.bool r) ∧ R r w'
theorem store_whole.Call.mono {b} {w : World} {R R' : Bool → World → Prop} (h : store_whole.Call b w R) (hr : ∀ r w', R r w' → R' r w') : store_whole.Call b w R' :=
  Calls.mono h fun e w' he => by
    obtain ⟨r, h1, h2⟩ := he
    exact ⟨r, h1, hr r w' h2⟩
def store_whole.RV (R : Bool → World → Prop) (v : Value) (w : World) : Prop := match v with
  | .bool r => R r w
  | _ => False
theorem store_whole.RV_elim {R : Bool → World → Prop} {v : Value} {w : World} (h : store_whole.RV R v w) : ∃ r, Ending.returned v = .returned (.bool r) ∧ R r w := by
  unfold store_whole.RV at h
  split at h
  · exact ⟨_, rfl, h⟩
  · exact h.elim
/-- e2e/store.get8 -/
def store_get8.Call (b : ByteArray) (at0 : Int) (w : World) (R : Int → World → Prop) : Prop :=
  Calls Try.prog 42 #[.string b, .int .i64 at0] w fun e w' => ∃ r, e = .returned (.int .i64 r) ∧ R r w'
theorem store_get8.Call.mono {b at0} {w : World} {R R' : Int → World → Prop} (h : store_get8.Call b at0 w R) (hr : ∀ r w', R r w' → R' r w') : store_get8.Call b at0 w R' :=
  Calls.mono h fun e w' he => by
    obtain ⟨r, h1, h2⟩ := he
    exact ⟨r, h1, hr r w' h2⟩
def store_get8.RV (R : Int → World → Prop) (v : Value) (w : World) : Prop := match v with
  | .int .i64 r => R r w
  | _ => False
theorem store_get8.RV_elim {R : Int → World → Prop} {v : Value} {w : World} (h : store_get8.RV R v w) : ∃ r, Ending.returned v = .returned (.int .i64 r) ∧ R r w := by
  unfold store_get8.RV at h
  split at h
  · exact ⟨_, rfl, h⟩
  · exact h.elim
/-- (*e2e/storem.state).clone -/
def storem_state_clone.Call (s : Option Addr) (w : World) (R : Option Addr → World → Prop) : Prop :=
  Calls Try.prog 43 #[.pointer s] w fun e w' => ∃ r, e = .returned (.pointer r) ∧ R r w'
theorem storem_state_clone.Call.mono {s} {w : World} {R R' : Option Addr → World → Prop} (h : storem_state_clone.Call s w R) (hr : ∀ r w', R r w' → R' r w') : storem_state_clone.Call s w R' :=
  Calls.mono h fun e w' he => by
    obtain ⟨r, h1, h2⟩ := he
    exact ⟨r, h1, hr r w' h2⟩
def storem_state_clone.RV (R : Option Addr → World → Prop) (v : Value) (w : World) : Prop := match v with
  | .pointer r => R r w
  | _ => False
theorem storem_state_clone.RV_elim {R : Option Addr → World → Prop} {v : Value} {w : World} (h : storem_state_clone.RV R v w) : ∃ r, Ending.returned v = .returned (.pointer r) ∧ R r w := by
  unfold storem_state_clone.RV at h
  split at h
  · exact ⟨_, rfl, h⟩
  · exact h.elim
/-- (*e2e/store.Store).SetMeta -/
def store_Store_SetMeta.Call (t : Option Addr) (term vote : Int) (w : World) (R : Int → World → Prop) : Prop :=
  Calls Try.prog 44 #[.pointer t, .int .i64 term, .int .i64 vote] w fun e w' => ∃ r, e = .returned (.int .i64 r) ∧ R r w'
theorem store_Store_SetMeta.Call.mono {t term vote} {w : World} {R R' : Int → World → Prop} (h : store_Store_SetMeta.Call t term vote w R) (hr : ∀ r w', R r w' → R' r w') : store_Store_SetMeta.Call t term vote w R' :=
  Calls.mono h fun e w' he => by
    obtain ⟨r, h1, h2⟩ := he
    exact ⟨r, h1, hr r w' h2⟩
def store_Store_SetMeta.RV (R : Int → World → Prop) (v : Value) (w : World) : Prop := match v with
  | .int .i64 r => R r w
  | _ => False
theorem store_Store_SetMeta.RV_elim {R : Int → World → Prop} {v : Value} {w : World} (h : store_Store_SetMeta.RV R v w) : ∃ r, Ending.returned v = .returned (.int .i64 r) ∧ R r w := by
  unfold store_Store_SetMeta.RV at h
  split at h
  · exact ⟨_, rfl, h⟩
  · exact h.elim
/-- (*e2e/storem.Store).SetMeta -/
def storem_Store_SetMeta.Call (t : Option Addr) (term vote : Int) (w : World) (R : Int → World → Prop) : Prop :=
  Calls Try.prog 45 #[.pointer t, .int .i64 term, .int .i64 vote] w fun e w' => ∃ r, e = .returned (.int .i64 r) ∧ R r w'
theorem storem_Store_SetMeta.Call.mono {t term vote} {w : World} {R R' : Int → World → Prop} (h : storem_Store_SetMeta.Call t term vote w R) (hr : ∀ r w', R r w' → R' r w') : storem_Store_SetMeta.Call t term vote w R' :=
  Calls.mono h fun e w' he => by
    obtain ⟨r, h1, h2⟩ := he
    exact ⟨r, h1, hr r w' h2⟩
def storem_Store_SetMeta.RV (R : Int → World → Prop) (v : Value) (w : World) : Prop := match v with
  | .int .i64 r => R r w
  | _ => False
theorem storem_Store_SetMeta.RV_elim {R : Int → World → Prop} {v : Value} {w : World} (h : storem_Store_SetMeta.RV R v w) : ∃ r, Ending.returned v = .returned (.int .i64 r) ∧ R r w := by
  unfold storem_Store_SetMeta.RV at h
  split at h
  · exact ⟨_, rfl, h⟩
  · exact h.elim
/-- (*e2e/store.Store).SetSnap -/
def store_Store_SetSnap.Call (t : Option Addr) (idx term : Int) (data : ByteArray) (w : World) (R : Int → World → Prop) : Prop :=
  Calls Try.prog 46 #[.pointer t, .int .i64 idx, .int .i64 term, .string data] w fun e w' => ∃ r, e = .returned (.int .i64 r) ∧ R r w'
theorem store_Store_SetSnap.Call.mono {t idx term data} {w : World} {R R' : Int → World → Prop} (h : store_Store_SetSnap.Call t idx term data w R) (hr : ∀ r w', R r w' → R' r w') : store_Store_SetSnap.Call t idx term data w R' :=
  Calls.mono h fun e w' he => by
    obtain ⟨r, h1, h2⟩ := he
    exact ⟨r, h1, hr r w' h2⟩
def store_Store_SetSnap.RV (R : Int → World → Prop) (v : Value) (w : World) : Prop := match v with
  | .int .i64 r => R r w
  | _ => False
theorem store_Store_SetSnap.RV_elim {R : Int → World → Prop} {v : Value} {w : World} (h : store_Store_SetSnap.RV R v w) : ∃ r, Ending.returned v = .returned (.int .i64 r) ∧ R r w := by
  unfold store_Store_SetSnap.RV at h
  split at h
  · exact ⟨_, rfl, h⟩
  · exact h.elim
/-- (*e2e/storem.Store).SetSnap -/
def storem_Store_SetSnap.Call (t : Option Addr) (idx term : Int) (data : ByteArray) (w : World) (R : Int → World → Prop) : Prop :=
  Calls Try.prog 47 #[.pointer t, .int .i64 idx, .int .i64 term, .string data] w fun e w' => ∃ r, e = .returned (.int .i64 r) ∧ R r w'
theorem storem_Store_SetSnap.Call.mono {t idx term data} {w : World} {R R' : Int → World → Prop} (h : storem_Store_SetSnap.Call t idx term data w R) (hr : ∀ r w', R r w' → R' r w') : storem_Store_SetSnap.Call t idx term data w R' :=
  Calls.mono h fun e w' he => by
    obtain ⟨r, h1, h2⟩ := he
    exact ⟨r, h1, hr r w' h2⟩
def storem_Store_SetSnap.RV (R : Int → World → Prop) (v : Value) (w : World) : Prop := match v with
  | .int .i64 r => R r w
  | _ => False
theorem storem_Store_SetSnap.RV_elim {R : Int → World → Prop} {v : Value} {w : World} (h : storem_Store_SetSnap.RV R v w) : ∃ r, Ending.returned v = .returned (.int .i64 r) ∧ R r w := by
  unfold storem_Store_SetSnap.RV at h
  split at h
  · exact ⟨_, rfl, h⟩
  · exact h.elim
/-- (*e2e/store.Store).PutRec -/
def store_Store_PutRec.Call (t : Option Addr) (slot r_0 r_1 : Int) (r_2 : ByteArray) (w : World) (R : Int → World → Prop) : Prop :=
  Calls Try.prog 48 #[.pointer t, .int .i64 slot, .agg #[.int .i64 r_0, .int .i64 r_1, .string r_2]] w fun e w' => ∃ r, e = .returned (.int .i64 r) ∧ R r w'
theorem store_Store_PutRec.Call.mono {t slot r_0 r_1 r_2} {w : World} {R R' : Int → World → Prop} (h : store_Store_PutRec.Call t slot r_0 r_1 r_2 w R) (hr : ∀ r w', R r w' → R' r w') : store_Store_PutRec.Call t slot r_0 r_1 r_2 w R' :=
  Calls.mono h fun e w' he => by
    obtain ⟨r, h1, h2⟩ := he
    exact ⟨r, h1, hr r w' h2⟩
def store_Store_PutRec.RV (R : Int → World → Prop) (v : Value) (w : World) : Prop := match v with
  | .int .i64 r => R r w
  | _ => False
theorem store_Store_PutRec.RV_elim {R : Int → World → Prop} {v : Value} {w : World} (h : store_Store_PutRec.RV R v w) : ∃ r, Ending.returned v = .returned (.int .i64 r) ∧ R r w := by
  unfold store_Store_PutRec.RV at h
  split at h
  · exact ⟨_, rfl, h⟩
  · exact h.elim
/-- (*e2e/storem.Store).PutRec -/
def storem_Store_PutRec.Call (t : Option Addr) (slot r_0 r_1 : Int) (r_2 : ByteArray) (w : World) (R : Int → World → Prop) : Prop :=
  Calls Try.prog 49 #[.pointer t, .int .i64 slot, .agg #[.int .i64 r_0, .int .i64 r_1, .string r_2]] w fun e w' => ∃ r, e = .returned (.int .i64 r) ∧ R r w'
theorem storem_Store_PutRec.Call.mono {t slot r_0 r_1 r_2} {w : World} {R R' : Int → World → Prop} (h : storem_Store_PutRec.Call t slot r_0 r_1 r_2 w R) (hr : ∀ r w', R r w' → R' r w') : storem_Store_PutRec.Call t slot r_0 r_1 r_2 w R' :=
  Calls.mono h fun e w' he => by
    obtain ⟨r, h1, h2⟩ := he
    exact ⟨r, h1, hr r w' h2⟩
def storem_Store_PutRec.RV (R : Int → World → Prop) (v : Value) (w : World) : Prop := match v with
  | .int .i64 r => R r w
  | _ => False
theorem storem_Store_PutRec.RV_elim {R : Int → World → Prop} {v : Value} {w : World} (h : storem_Store_PutRec.RV R v w) : ∃ r, Ending.returned v = .returned (.int .i64 r) ∧ R r w := by
  unfold storem_Store_PutRec.RV at h
  split at h
  · exact ⟨_, rfl, h⟩
  · exact h.elim
/-- (*e2e/store.Store).DelRec -/
def store_Store_DelRec.Call (t : Option Addr) (slot : Int) (w : World) (R : Int → World → Prop) : Prop :=
  Calls Try.prog 50 #[.pointer t, .int .i64 slot] w fun e w' => ∃ r, e = .returned (.int .i64 r) ∧ R r w'
theorem store_Store_DelRec.Call.mono {t slot} {w : World} {R R' : Int → World → Prop} (h : store_Store_DelRec.Call t slot w R) (hr : ∀ r w', R r w' → R' r w') : store_Store_DelRec.Call t slot w R' :=
  Calls.mono h fun e w' he => by
    obtain ⟨r, h1, h2⟩ := he
    exact ⟨r, h1, hr r w' h2⟩
def store_Store_DelRec.RV (R : Int → World → Prop) (v : Value) (w : World) : Prop := match v with
  | .int .i64 r => R r w
  | _ => False
theorem store_Store_DelRec.RV_elim {R : Int → World → Prop} {v : Value} {w : World} (h : store_Store_DelRec.RV R v w) : ∃ r, Ending.returned v = .returned (.int .i64 r) ∧ R r w := by
  unfold store_Store_DelRec.RV at h
  split at h
  · exact ⟨_, rfl, h⟩
  · exact h.elim
/-- (*e2e/storem.Store).DelRec -/
def storem_Store_DelRec.Call (t : Option Addr) (slot : Int) (w : World) (R : Int → World → Prop) : Prop :=
  Calls Try.prog 51 #[.pointer t, .int .i64 slot] w fun e w' => ∃ r, e = .returned (.int .i64 r) ∧ R r w'
theorem storem_Store_DelRec.Call.mono {t slot} {w : World} {R R' : Int → World → Prop} (h : storem_Store_DelRec.Call t slot w R) (hr : ∀ r w', R r w' → R' r w') : storem_Store_DelRec.Call t slot w R' :=
  Calls.mono h fun e w' he => by
    obtain ⟨r, h1, h2⟩ := he
    exact ⟨r, h1, hr r w' h2⟩
def storem_Store_DelRec.RV (R : Int → World → Prop) (v : Value) (w : World) : Prop := match v with
  | .int .i64 r => R r w
  | _ => False
theorem storem_Store_DelRec.RV_elim {R : Int → World → Prop} {v : Value} {w : World} (h : storem_Store_DelRec.RV R v w) : ∃ r, Ending.returned v = .returned (.int .i64 r) ∧ R r w := by
  unfold storem_Store_DelRec.RV at h
  split at h
  · exact ⟨_, rfl, h⟩
  · exact h.elim
/-- e2e/storelaw.SameRec -/
def storelaw_SameRec.Call (x m0 : Option Addr) (slot : Int) (w : World) (R : Bool → World → Prop) : Prop :=
  Calls Try.prog 52 #[.pointer x, .pointer m0, .int .i64 slot] w fun e w' => ∃ r, e = .returned (.bool r) ∧ R r w'
theorem storelaw_SameRec.Call.mono {x m0 slot} {w : World} {R R' : Bool → World → Prop} (h : storelaw_SameRec.Call x m0 slot w R) (hr : ∀ r w', R r w' → R' r w') : storelaw_SameRec.Call x m0 slot w R' :=
  Calls.mono h fun e w' he => by
    obtain ⟨r, h1, h2⟩ := he
    exact ⟨r, h1, hr r w' h2⟩
def storelaw_SameRec.RV (R : Bool → World → Prop) (v : Value) (w : World) : Prop := match v with
  | .bool r => R r w
  | _ => False
theorem storelaw_SameRec.RV_elim {R : Bool → World → Prop} {v : Value} {w : World} (h : storelaw_SameRec.RV R v w) : ∃ r, Ending.returned v = .returned (.bool r) ∧ R r w := by
  unfold storelaw_SameRec.RV at h
  split at h
  · exact ⟨_, rfl, h⟩
  · exact h.elim
/-- e2e/storelaw.SameMeta -/
def storelaw_SameMeta.Call (x m0 : Option Addr) (w : World) (R : Bool → World → Prop) : Prop :=
  Calls Try.prog 53 #[.pointer x, .pointer m0] w fun e w' => ∃ r, e = .returned (.bool r) ∧ R r w'
theorem storelaw_SameMeta.Call.mono {x m0} {w : World} {R R' : Bool → World → Prop} (h : storelaw_SameMeta.Call x m0 w R) (hr : ∀ r w', R r w' → R' r w') : storelaw_SameMeta.Call x m0 w R' :=
  Calls.mono h fun e w' he => by
    obtain ⟨r, h1, h2⟩ := he
    exact ⟨r, h1, hr r w' h2⟩
def storelaw_SameMeta.RV (R : Bool → World → Prop) (v : Value) (w : World) : Prop := match v with
  | .bool r => R r w
  | _ => False
theorem storelaw_SameMeta.RV_elim {R : Bool → World → Prop} {v : Value} {w : World} (h : storelaw_SameMeta.RV R v w) : ∃ r, Ending.returned v = .returned (.bool r) ∧ R r w := by
  unfold storelaw_SameMeta.RV at h
  split at h
  · exact ⟨_, rfl, h⟩
  · exact h.elim
/-- e2e/storelaw.SameSnap -/
def storelaw_SameSnap.Call (x m0 : Option Addr) (w : World) (R : Bool → World → Prop) : Prop :=
  Calls Try.prog 54 #[.pointer x, .pointer m0] w fun e w' => ∃ r, e = .returned (.bool r) ∧ R r w'
theorem storelaw_SameSnap.Call.mono {x m0} {w : World} {R R' : Bool → World → Prop} (h : storelaw_SameSnap.Call x m0 w R) (hr : ∀ r w', R r w' → R' r w') : storelaw_SameSnap.Call x m0 w R' :=
  Calls.mono h fun e w' he => by
    obtain ⟨r, h1, h2⟩ := he
    exact ⟨r, h1, hr r w' h2⟩
def storelaw_SameSnap.RV (R : Bool → World → Prop) (v : Value) (w : World) : Prop := match v with
  | .bool r => R r w
  | _ => False
theorem storelaw_SameSnap.RV_elim {R : Bool → World → Prop} {v : Value} {w : World} (h : storelaw_SameSnap.RV R v w) : ∃ r, Ending.returned v = .returned (.bool r) ∧ R r w := by
  unfold storelaw_SameSnap.RV at h
  split at h
  · exact ⟨_, rfl, h⟩
  · exact h.elim
/-- (*e2e/diskm.Disk).After -/
def diskm_Disk_After.Call (d : Option Addr) (k : Int) (w : World) (R : Option Addr → World → Prop) : Prop :=
  Calls Try.prog 55 #[.pointer d, .int .i64 k] w fun e w' => ∃ r, e = .returned (.pointer r) ∧ R r w'
theorem diskm_Disk_After.Call.mono {d k} {w : World} {R R' : Option Addr → World → Prop} (h : diskm_Disk_After.Call d k w R) (hr : ∀ r w', R r w' → R' r w') : diskm_Disk_After.Call d k w R' :=
  Calls.mono h fun e w' he => by
    obtain ⟨r, h1, h2⟩ := he
    exact ⟨r, h1, hr r w' h2⟩
def diskm_Disk_After.RV (R : Option Addr → World → Prop) (v : Value) (w : World) : Prop := match v with
  | .pointer r => R r w
  | _ => False
theorem diskm_Disk_After.RV_elim {R : Option Addr → World → Prop} {v : Value} {w : World} (h : diskm_Disk_After.RV R v w) : ∃ r, Ending.returned v = .returned (.pointer r) ∧ R r w := by
  unfold diskm_Disk_After.RV at h
  split at h
  · exact ⟨_, rfl, h⟩
  · exact h.elim
/-- e2e/store.encMeta -/
def store_encMeta.Call (m0_0 : Bool) (m0_1 m0_2 m0_3 : Int) (w : World) (R : Option Addr → Nat → Nat → World → Prop) : Prop :=
  Calls Try.prog 56 #[.agg #[.bool m0_0, .int .i64 m0_1, .int .i64 m0_2, .int .i64 m0_3]] w fun e w' => ∃ r_b r_l r_c, e = .returned (.slice r_b r_l r_c) ∧ R r_b r_l r_c w'
theorem store_encMeta.Call.mono {m0_0 m0_1 m0_2 m0_3} {w : World} {R R' : Option Addr → Nat → Nat → World → Prop} (h : store_encMeta.Call m0_0 m0_1 m0_2 m0_3 w R) (hr : ∀ r_b r_l r_c w', R r_b r_l r_c w' → R' r_b r_l r_c w') : store_encMeta.Call m0_0 m0_1 m0_2 m0_3 w R' :=
  Calls.mono h fun e w' he => by
    obtain ⟨r_b, r_l, r_c, h1, h2⟩ := he
    exact ⟨r_b, r_l, r_c, h1, hr r_b r_l r_c w' h2⟩
def store_encMeta.RV (R : Option Addr → Nat → Nat → World → Prop) (v : Value) (w : World) : Prop := match v with
  | .slice r_b r_l r_c => R r_b r_l r_c w
  | _ => False
theorem store_encMeta.RV_elim {R : Option Addr → Nat → Nat → World → Prop} {v : Value} {w : World} (h : store_encMeta.RV R v w) : ∃ r_b r_l r_c, Ending.returned v = .returned (.slice r_b r_l r_c) ∧ R r_b r_l r_c w := by
  unfold store_encMeta.RV at h
  split at h
  · exact ⟨_, _, _, rfl, h⟩
  · exact h.elim
/-- (*e2e/store.Store).write -/
def store_Store_write.Call (t : Option Addr) (b : Int) (x_b : Option Addr) (x_l x_c : Nat) (w : World) (R : World → Prop) : Prop :=
  Calls Try.prog 57 #[.pointer t, .int .i64 b, .slice x_b x_l x_c] w fun e w' => e = .returned (.tuple #[]) ∧ R w'
theorem store_Store_write.Call.mono {t b x_b x_l x_c} {w : World} {R R' : World → Prop} (h : store_Store_write.Call t b x_b x_l x_c w R) (hr : ∀ w', R w' → R'  w') : store_Store_write.Call t b x_b x_l x_c w R' :=
  Calls.mono h fun e w' he => by
    obtain ⟨h1, h2⟩ := he
    exact ⟨h1, hr  w' h2⟩
def store_Store_write.RV (R : World → Prop) (v : Value) (w : World) : Prop := match v with
  | .tuple ⟨[]⟩ => R w
  | _ => False
theorem store_Store_write.RV_elim {R : World → Prop} {v : Value} {w : World} (h : store_Store_write.RV R v w) : Ending.returned v = .returned (.tuple #[]) ∧ R w := by
  unfold store_Store_write.RV at h
  split at h
  · exact ⟨rfl, h⟩
  · exact h.elim
/-- (*e2e/storem.Store).step -/
def storem_Store_step.Call (t : Option Addr) (w : World) (R : World → Prop) : Prop :=
  Calls Try.prog 58 #[.pointer t] w fun e w' => e = .returned (.tuple #[]) ∧ R w'
theorem storem_Store_step.Call.mono {t} {w : World} {R R' : World → Prop} (h : storem_Store_step.Call t w R) (hr : ∀ w', R w' → R'  w') : storem_Store_step.Call t w R' :=
  Calls.mono h fun e w' he => by
    obtain ⟨h1, h2⟩ := he
    exact ⟨h1, hr  w' h2⟩
def storem_Store_step.RV (R : World → Prop) (v : Value) (w : World) : Prop := match v with
  | .tuple ⟨[]⟩ => R w
  | _ => False
theorem storem_Store_step.RV_elim {R : World → Prop} {v : Value} {w : World} (h : storem_Store_step.RV R v w) : Ending.returned v = .returned (.tuple #[]) ∧ R w := by
  unfold storem_Store_step.RV at h
  split at h
  · exact ⟨rfl, h⟩
  · exact h.elim
/-- e2e/store.chunk -/
def store_chunk.Call (data : ByteArray) (k : Int) (w : World) (R : ByteArray → World → Prop) : Prop :=
  Calls Try.prog 59 #[.string data, .int .i64 k] w fun e w' => ∃ r, e = .returned (.string r) ∧ R r w'
theorem store_chunk.Call.mono {data k} {w : World} {R R' : ByteArray → World → Prop} (h : store_chunk.Call data k w R) (hr : ∀ r w', R r w' → R' r w') : store_chunk.Call data k w R' :=
  Calls.mono h fun e w' he => by
    obtain ⟨r, h1, h2⟩ := he
    exact ⟨r, h1, hr r w' h2⟩
def store_chunk.RV (R : ByteArray → World → Prop) (v : Value) (w : World) : Prop := match v with
  | .string r => R r w
  | _ => False
theorem store_chunk.RV_elim {R : ByteArray → World → Prop} {v : Value} {w : World} (h : store_chunk.RV R v w) : ∃ r, Ending.returned v = .returned (.string r) ∧ R r w := by
  unfold store_chunk.RV at h
  split at h
  · exact ⟨_, rfl, h⟩
  · exact h.elim
/-- e2e/store.encHead -/
def store_encHead.Call (h0_0 : Bool) (h0_1 h0_2 h0_3 h0_4 h0_5 : Int) (w : World) (R : Option Addr → Nat → Nat → World → Prop) : Prop :=
  Calls Try.prog 60 #[.agg #[.bool h0_0, .int .i64 h0_1, .int .i64 h0_2, .int .i64 h0_3, .int .i64 h0_4, .int .i64 h0_5]] w fun e w' => ∃ r_b r_l r_c, e = .returned (.slice r_b r_l r_c) ∧ R r_b r_l r_c w'
theorem store_encHead.Call.mono {h0_0 h0_1 h0_2 h0_3 h0_4 h0_5} {w : World} {R R' : Option Addr → Nat → Nat → World → Prop} (h : store_encHead.Call h0_0 h0_1 h0_2 h0_3 h0_4 h0_5 w R) (hr : ∀ r_b r_l r_c w', R r_b r_l r_c w' → R' r_b r_l r_c w') : store_encHead.Call h0_0 h0_1 h0_2 h0_3 h0_4 h0_5 w R' :=
  Calls.mono h fun e w' he => by
    obtain ⟨r_b, r_l, r_c, h1, h2⟩ := he
    exact ⟨r_b, r_l, r_c, h1, hr r_b r_l r_c w' h2⟩
def store_encHead.RV (R : Option Addr → Nat → Nat → World → Prop) (v : Value) (w : World) : Prop := match v with
  | .slice r_b r_l r_c => R r_b r_l r_c w
  | _ => False
theorem store_encHead.RV_elim {R : Option Addr → Nat → Nat → World → Prop} {v : Value} {w : World} (h : store_encHead.RV R v w) : ∃ r_b r_l r_c, Ending.returned v = .returned (.slice r_b r_l r_c) ∧ R r_b r_l r_c w := by
  unfold store_encHead.RV at h
  split at h
  · exact ⟨_, _, _, rfl, h⟩
  · exact h.elim
/-- e2e/store.encRec -/
def store_encRec.Call (r_0 r_1 : Int) (r_2 : ByteArray) (w : World) (R : Option Addr → Nat → Nat → World → Prop) : Prop :=
  Calls Try.prog 61 #[.agg #[.int .i64 r_0, .int .i64 r_1, .string r_2]] w fun e w' => ∃ r_b r_l r_c, e = .returned (.slice r_b r_l r_c) ∧ R r_b r_l r_c w'
theorem store_encRec.Call.mono {r_0 r_1 r_2} {w : World} {R R' : Option Addr → Nat → Nat → World → Prop} (h : store_encRec.Call r_0 r_1 r_2 w R) (hr : ∀ r_b r_l r_c w', R r_b r_l r_c w' → R' r_b r_l r_c w') : store_encRec.Call r_0 r_1 r_2 w R' :=
  Calls.mono h fun e w' he => by
    obtain ⟨r_b, r_l, r_c, h1, h2⟩ := he
    exact ⟨r_b, r_l, r_c, h1, hr r_b r_l r_c w' h2⟩
def store_encRec.RV (R : Option Addr → Nat → Nat → World → Prop) (v : Value) (w : World) : Prop := match v with
  | .slice r_b r_l r_c => R r_b r_l r_c w
  | _ => False
theorem store_encRec.RV_elim {R : Option Addr → Nat → Nat → World → Prop} {v : Value} {w : World} (h : store_encRec.RV R v w) : ∃ r_b r_l r_c, Ending.returned v = .returned (.slice r_b r_l r_c) ∧ R r_b r_l r_c w := by
  unfold store_encRec.RV at h
  split at h
  · exact ⟨_, _, _, rfl, h⟩
  · exact h.elim
/-- (*e2e/storem.Store).Rec -/
def storem_Store_Rec.Call (t : Option Addr) (slot : Int) (w : World) (R : Int → Int → ByteArray → Int → World → Prop) : Prop :=
  Calls Try.prog 62 #[.pointer t, .int .i64 slot] w fun e w' => ∃ r0_0 r0_1 r0_2 r1, e = .returned (.tuple #[.agg #[.int .i64 r0_0, .int .i64 r0_1, .string r0_2], .int .i64 r1]) ∧ R r0_0 r0_1 r0_2 r1 w'
theorem storem_Store_Rec.Call.mono {t slot} {w : World} {R R' : Int → Int → ByteArray → Int → World → Prop} (h : storem_Store_Rec.Call t slot w R) (hr : ∀ r0_0 r0_1 r0_2 r1 w', R r0_0 r0_1 r0_2 r1 w' → R' r0_0 r0_1 r0_2 r1 w') : storem_Store_Rec.Call t slot w R' :=
  Calls.mono h fun e w' he => by
    obtain ⟨r0_0, r0_1, r0_2, r1, h1, h2⟩ := he
    exact ⟨r0_0, r0_1, r0_2, r1, h1, hr r0_0 r0_1 r0_2 r1 w' h2⟩
def storem_Store_Rec.RV (R : Int → Int → ByteArray → Int → World → Prop) (v : Value) (w : World) : Prop := match v with
  | .tuple ⟨[.agg ⟨[.int .i64 r0_0, .int .i64 r0_1, .string r0_2]⟩, .int .i64 r1]⟩ => R r0_0 r0_1 r0_2 r1 w
  | _ => False
theorem storem_Store_Rec.RV_elim {R : Int → Int → ByteArray → Int → World → Prop} {v : Value} {w : World} (h : storem_Store_Rec.RV R v w) : ∃ r0_0 r0_1 r0_2 r1, Ending.returned v = .returned (.tuple #[.agg #[.int .i64 r0_0, .int .i64 r0_1, .string r0_2], .int .i64 r1]) ∧ R r0_0 r0_1 r0_2 r1 w := by
  unfold storem_Store_Rec.RV at h
  split at h
  · exact ⟨_, _, _, _, rfl, h⟩
  · exact h.elim
/-- (*e2e/storem.Store).Meta -/
def storem_Store_Meta.Call (t : Option Addr) (w : World) (R : Int → Int → World → Prop) : Prop :=
  Calls Try.prog 63 #[.pointer t] w fun e w' => ∃ r0 r1, e = .returned (.tuple #[.int .i64 r0, .int .i64 r1]) ∧ R r0 r1 w'
theorem storem_Store_Meta.Call.mono {t} {w : World} {R R' : Int → Int → World → Prop} (h : storem_Store_Meta.Call t w R) (hr : ∀ r0 r1 w', R r0 r1 w' → R' r0 r1 w') : storem_Store_Meta.Call t w R' :=
  Calls.mono h fun e w' he => by
    obtain ⟨r0, r1, h1, h2⟩ := he
    exact ⟨r0, r1, h1, hr r0 r1 w' h2⟩
def storem_Store_Meta.RV (R : Int → Int → World → Prop) (v : Value) (w : World) : Prop := match v with
  | .tuple ⟨[.int .i64 r0, .int .i64 r1]⟩ => R r0 r1 w
  | _ => False
theorem storem_Store_Meta.RV_elim {R : Int → Int → World → Prop} {v : Value} {w : World} (h : storem_Store_Meta.RV R v w) : ∃ r0 r1, Ending.returned v = .returned (.tuple #[.int .i64 r0, .int .i64 r1]) ∧ R r0 r1 w := by
  unfold storem_Store_Meta.RV at h
  split at h
  · exact ⟨_, _, rfl, h⟩
  · exact h.elim
/-- (*e2e/storem.Store).Snap -/
def storem_Store_Snap.Call (t : Option Addr) (w : World) (R : Int → Int → ByteArray → World → Prop) : Prop :=
  Calls Try.prog 64 #[.pointer t] w fun e w' => ∃ r0 r1 r2, e = .returned (.tuple #[.int .i64 r0, .int .i64 r1, .string r2]) ∧ R r0 r1 r2 w'
theorem storem_Store_Snap.Call.mono {t} {w : World} {R R' : Int → Int → ByteArray → World → Prop} (h : storem_Store_Snap.Call t w R) (hr : ∀ r0 r1 r2 w', R r0 r1 r2 w' → R' r0 r1 r2 w') : storem_Store_Snap.Call t w R' :=
  Calls.mono h fun e w' he => by
    obtain ⟨r0, r1, r2, h1, h2⟩ := he
    exact ⟨r0, r1, r2, h1, hr r0 r1 r2 w' h2⟩
def storem_Store_Snap.RV (R : Int → Int → ByteArray → World → Prop) (v : Value) (w : World) : Prop := match v with
  | .tuple ⟨[.int .i64 r0, .int .i64 r1, .string r2]⟩ => R r0 r1 r2 w
  | _ => False
theorem storem_Store_Snap.RV_elim {R : Int → Int → ByteArray → World → Prop} {v : Value} {w : World} (h : storem_Store_Snap.RV R v w) : ∃ r0 r1 r2, Ending.returned v = .returned (.tuple #[.int .i64 r0, .int .i64 r1, .string r2]) ∧ R r0 r1 r2 w := by
  unfold storem_Store_Snap.RV at h
  split at h
  · exact ⟨_, _, _, rfl, h⟩
  · exact h.elim
/-- e2e/store.put8 -/
def store_put8.Call (b_b : Option Addr) (b_l b_c : Nat) (at0 v_1 : Int) (w : World) (R : Option Addr → Nat → Nat → World → Prop) : Prop :=
  Calls Try.prog 65 #[.slice b_b b_l b_c, .int .i64 at0, .int .i64 v_1] w fun e w' => ∃ r_b r_l r_c, e = .returned (.slice r_b r_l r_c) ∧ R r_b r_l r_c w'
theorem store_put8.Call.mono {b_b b_l b_c at0 v_1} {w : World} {R R' : Option Addr → Nat → Nat → World → Prop} (h : store_put8.Call b_b b_l b_c at0 v_1 w R) (hr : ∀ r_b r_l r_c w', R r_b r_l r_c w' → R' r_b r_l r_c w') : store_put8.Call b_b b_l b_c at0 v_1 w R' :=
  Calls.mono h fun e w' he => by
    obtain ⟨r_b, r_l, r_c, h1, h2⟩ := he
    exact ⟨r_b, r_l, r_c, h1, hr r_b r_l r_c w' h2⟩
def store_put8.RV (R : Option Addr → Nat → Nat → World → Prop) (v : Value) (w : World) : Prop := match v with
  | .slice r_b r_l r_c => R r_b r_l r_c w
  | _ => False
theorem store_put8.RV_elim {R : Option Addr → Nat → Nat → World → Prop} {v : Value} {w : World} (h : store_put8.RV R v w) : ∃ r_b r_l r_c, Ending.returned v = .returned (.slice r_b r_l r_c) ∧ R r_b r_l r_c w := by
  unfold store_put8.RV at h
  split at h
  · exact ⟨_, _, _, rfl, h⟩
  · exact h.elim
/-- e2e/store.next -/
def store_next.Call (old : Int) (w : World) (R : Int → World → Prop) : Prop :=
  Calls Try.prog 66 #[.int .u8 old] w fun e w' => ∃ r, e = .returned (.int .u8 r) ∧ R r w'
theorem store_next.Call.mono {old} {w : World} {R R' : Int → World → Prop} (h : store_next.Call old w R) (hr : ∀ r w', R r w' → R' r w') : store_next.Call old w R' :=
  Calls.mono h fun e w' he => by
    obtain ⟨r, h1, h2⟩ := he
    exact ⟨r, h1, hr r w' h2⟩
def store_next.RV (R : Int → World → Prop) (v : Value) (w : World) : Prop := match v with
  | .int .u8 r => R r w
  | _ => False
theorem store_next.RV_elim {R : Int → World → Prop} {v : Value} {w : World} (h : store_next.RV R v w) : ∃ r, Ending.returned v = .returned (.int .u8 r) ∧ R r w := by
  unfold store_next.RV at h
  split at h
  · exact ⟨_, rfl, h⟩
  · exact h.elim
end Go.Proofs.Qxb6500432a
