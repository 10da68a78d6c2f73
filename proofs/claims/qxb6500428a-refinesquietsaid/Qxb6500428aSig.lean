import Derived.Test.Qxb6500428aProg
import Derived.Test.Qxb6500428aVcC
open Go.Vc
namespace Go.Proofs.Qxb6500428a
theorem Try.mixed : Try.prog.follows .mixedOrders = true := by kernel_rfl
abbrev T_int64 : TypeId := 2
abbrev T_int : TypeId := 3
abbrev T_bool : TypeId := 4
abbrev T_uint8 : TypeId := 5
abbrev T_string : TypeId := 9
abbrev T_uintptr : TypeId := 12
abbrev T_int32 : TypeId := 21
abbrev T_api_Op : TypeId := 30
abbrev T_electlaw_Face : TypeId := 32
abbrev T_api_Errno : TypeId := 40
abbrev T_electm_Elect : TypeId := 50
abbrev T_elect_Elect : TypeId := 52
abbrev T_uint : TypeId := 58
abbrev T_uint32 : TypeId := 66
/-- e2e/electlaw.Refines -/
def electlaw_Refines.Call (script_b : Option Addr) (script_l script_c : Nat) (w : World) (R : Bool → World → Prop) : Prop :=
  Calls Try.prog 3 #[.slice script_b script_l script_c] w fun e w' => ∃ r, e = .returned (.bool r) ∧ R r w'
theorem electlaw_Refines.Call.mono {script_b script_l script_c} {w : World} {R R' : Bool → World → Prop} (h : electlaw_Refines.Call script_b script_l script_c w R) (hr : ∀ r w', R r w' → R' r w') : electlaw_Refines.Call script_b script_l script_c w R' :=
  Calls.mono h fun e w' he => by
    obtain ⟨r, h1, h2⟩ := he
    exact ⟨r, h1, hr r w' h2⟩
def electlaw_Refines.RV (R : Bool → World → Prop) (v : Value) (w : World) : Prop := match v with
  | .bool r => R r w
  | _ => False
theorem electlaw_Refines.RV_elim {R : Bool → World → Prop} {v : Value} {w : World} (h : electlaw_Refines.RV R v w) : ∃ r, Ending.returned v = .returned (.bool r) ∧ R r w := by
  unfold electlaw_Refines.RV at h
  split at h
  · exact ⟨_, rfl, h⟩
  · exact h.elim
/-- e2e/electlaw.RefinesSteady -/
def electlaw_RefinesSteady.Call (script_b : Option Addr) (script_l script_c : Nat) (w : World) (R : Bool → World → Prop) : Prop :=
  Calls Try.prog 4 #[.slice script_b script_l script_c] w fun e w' => ∃ r, e = .returned (.bool r) ∧ R r w'
theorem electlaw_RefinesSteady.Call.mono {script_b script_l script_c} {w : World} {R R' : Bool → World → Prop} (h : electlaw_RefinesSteady.Call script_b script_l script_c w R) (hr : ∀ r w', R r w' → R' r w') : electlaw_RefinesSteady.Call script_b script_l script_c w R' :=
  Calls.mono h fun e w' he => by
    obtain ⟨r, h1, h2⟩ := he
    exact ⟨r, h1, hr r w' h2⟩
def electlaw_RefinesSteady.RV (R : Bool → World → Prop) (v : Value) (w : World) : Prop := match v with
  | .bool r => R r w
  | _ => False
theorem electlaw_RefinesSteady.RV_elim {R : Bool → World → Prop} {v : Value} {w : World} (h : electlaw_RefinesSteady.RV R v w) : ∃ r, Ending.returned v = .returned (.bool r) ∧ R r w := by
  unfold electlaw_RefinesSteady.RV at h
  split at h
  · exact ⟨_, rfl, h⟩
  · exact h.elim
/-- e2e/electlaw.RefinesQuiet -/
def electlaw_RefinesQuiet.Call (script_b : Option Addr) (script_l script_c : Nat) (w : World) (R : Bool → World → Prop) : Prop :=
  Calls Try.prog 5 #[.slice script_b script_l script_c] w fun e w' => ∃ r, e = .returned (.bool r) ∧ R r w'
theorem electlaw_RefinesQuiet.Call.mono {script_b script_l script_c} {w : World} {R R' : Bool → World → Prop} (h : electlaw_RefinesQuiet.Call script_b script_l script_c w R) (hr : ∀ r w', R r w' → R' r w') : electlaw_RefinesQuiet.Call script_b script_l script_c w R' :=
  Calls.mono h fun e w' he => by
    obtain ⟨r, h1, h2⟩ := he
    exact ⟨r, h1, hr r w' h2⟩
def electlaw_RefinesQuiet.RV (R : Bool → World → Prop) (v : Value) (w : World) : Prop := match v with
  | .bool r => R r w
  | _ => False
theorem electlaw_RefinesQuiet.RV_elim {R : Bool → World → Prop} {v : Value} {w : World} (h : electlaw_RefinesQuiet.RV R v w) : ∃ r, Ending.returned v = .returned (.bool r) ∧ R r w := by
  unfold electlaw_RefinesQuiet.RV at h
  split at h
  · exact ⟨_, rfl, h⟩
  · exact h.elim
/-- e2e/electlaw.Lemmas -/
def electlaw_Lemmas.Call (script_b : Option Addr) (script_l script_c : Nat) (w : World) (R : Bool → World → Prop) : Prop :=
  Calls Try.prog 6 #[.slice script_b script_l script_c] w fun e w' => ∃ r, e = .returned (.bool r) ∧ R r w'
theorem electlaw_Lemmas.Call.mono {script_b script_l script_c} {w : World} {R R' : Bool → World → Prop} (h : electlaw_Lemmas.Call script_b script_l script_c w R) (hr : ∀ r w', R r w' → R' r w') : electlaw_Lemmas.Call script_b script_l script_c w R' :=
  Calls.mono h fun e w' he => by
    obtain ⟨r, h1, h2⟩ := he
    exact ⟨r, h1, hr r w' h2⟩
def electlaw_Lemmas.RV (R : Bool → World → Prop) (v : Value) (w : World) : Prop := match v with
  | .bool r => R r w
  | _ => False
theorem electlaw_Lemmas.RV_elim {R : Bool → World → Prop} {v : Value} {w : World} (h : electlaw_Lemmas.RV R v w) : ∃ r, Ending.returned v = .returned (.bool r) ∧ R r w := by
  unfold electlaw_Lemmas.RV at h
  split at h
  · exact ⟨_, rfl, h⟩
  · exact h.elim
/-- e2e/electlaw.RefinesUpTo -/
def electlaw_RefinesUpTo.Call (script_b : Option Addr) (script_l script_c : Nat) (w : World) (R : Int → World → Prop) : Prop :=
  Calls Try.prog 7 #[.slice script_b script_l script_c] w fun e w' => ∃ r, e = .returned (.int .i64 r) ∧ R r w'
theorem electlaw_RefinesUpTo.Call.mono {script_b script_l script_c} {w : World} {R R' : Int → World → Prop} (h : electlaw_RefinesUpTo.Call script_b script_l script_c w R) (hr : ∀ r w', R r w' → R' r w') : electlaw_RefinesUpTo.Call script_b script_l script_c w R' :=
  Calls.mono h fun e w' he => by
    obtain ⟨r, h1, h2⟩ := he
    exact ⟨r, h1, hr r w' h2⟩
def electlaw_RefinesUpTo.RV (R : Int → World → Prop) (v : Value) (w : World) : Prop := match v with
  | .int .i64 r => R r w
  | _ => False
theorem electlaw_RefinesUpTo.RV_elim {R : Int → World → Prop} {v : Value} {w : World} (h : electlaw_RefinesUpTo.RV R v w) : ∃ r, Ending.returned v = .returned (.int .i64 r) ∧ R r w := by
  unfold electlaw_RefinesUpTo.RV at h
  split at h
  · exact ⟨_, rfl, h⟩
  · exact h.elim
/-- e2e/electlaw.walk -/
def electlaw_walk.Call (script_b : Option Addr) (script_l script_c : Nat) (quiet : Bool) (w : World) (R : Int → Int → World → Prop) : Prop :=
  Calls Try.prog 8 #[.slice script_b script_l script_c, .bool quiet] w fun e w' => ∃ r0 r1, e = .returned (.tuple #[.int .i64 r0, .int .i64 r1]) ∧ R r0 r1 w'
theorem electlaw_walk.Call.mono {script_b script_l script_c quiet} {w : World} {R R' : Int → Int → World → Prop} (h : electlaw_walk.Call script_b script_l script_c quiet w R) (hr : ∀ r0 r1 w', R r0 r1 w' → R' r0 r1 w') : electlaw_walk.Call script_b script_l script_c quiet w R' :=
  Calls.mono h fun e w' he => by
    obtain ⟨r0, r1, h1, h2⟩ := he
    exact ⟨r0, r1, h1, hr r0 r1 w' h2⟩
def electlaw_walk.RV (R : Int → Int → World → Prop) (v : Value) (w : World) : Prop := match v with
  | .tuple ⟨[.int .i64 r0, .int .i64 r1]⟩ => R r0 r1 w
  | _ => False
theorem electlaw_walk.RV_elim {R : Int → Int → World → Prop} {v : Value} {w : World} (h : electlaw_walk.RV R v w) : ∃ r0 r1, Ending.returned v = .returned (.tuple #[.int .i64 r0, .int .i64 r1]) ∧ R r0 r1 w := by
  unfold electlaw_walk.RV at h
  split at h
  · exact ⟨_, _, rfl, h⟩
  · exact h.elim
/-- e2e/electm.New -/
def electm_New.Call (id0 : Int) (w : World) (R : Option Addr → World → Prop) : Prop :=
  Calls Try.prog 9 #[.int .i64 id0] w fun e w' => ∃ r, e = .returned (.pointer r) ∧ R r w'
theorem electm_New.Call.mono {id0} {w : World} {R R' : Option Addr → World → Prop} (h : electm_New.Call id0 w R) (hr : ∀ r w', R r w' → R' r w') : electm_New.Call id0 w R' :=
  Calls.mono h fun e w' he => by
    obtain ⟨r, h1, h2⟩ := he
    exact ⟨r, h1, hr r w' h2⟩
def electm_New.RV (R : Option Addr → World → Prop) (v : Value) (w : World) : Prop := match v with
  | .pointer r => R r w
  | _ => False
theorem electm_New.RV_elim {R : Option Addr → World → Prop} {v : Value} {w : World} (h : electm_New.RV R v w) : ∃ r, Ending.returned v = .returned (.pointer r) ∧ R r w := by
  unfold electm_New.RV at h
  split at h
  · exact ⟨_, rfl, h⟩
  · exact h.elim
/-- e2e/electlaw.FaceOf -/
def electlaw_FaceOf.Call (m0 : Option Addr) (w : World) (R : Int → Int → Int → World → Prop) : Prop :=
  Calls Try.prog 10 #[.pointer m0] w fun e w' => ∃ r_0 r_1 r_2, e = .returned (.agg #[.int .i64 r_0, .int .i64 r_1, .int .i64 r_2]) ∧ R r_0 r_1 r_2 w'
theorem electlaw_FaceOf.Call.mono {m0} {w : World} {R R' : Int → Int → Int → World → Prop} (h : electlaw_FaceOf.Call m0 w R) (hr : ∀ r_0 r_1 r_2 w', R r_0 r_1 r_2 w' → R' r_0 r_1 r_2 w') : electlaw_FaceOf.Call m0 w R' :=
  Calls.mono h fun e w' he => by
    obtain ⟨r_0, r_1, r_2, h1, h2⟩ := he
    exact ⟨r_0, r_1, r_2, h1, hr r_0 r_1 r_2 w' h2⟩
def electlaw_FaceOf.RV (R : Int → Int → Int → World → Prop) (v : Value) (w : World) : Prop := match v with
  | .agg ⟨[.int .i64 r_0, .int .i64 r_1, .int .i64 r_2]⟩ => R r_0 r_1 r_2 w
  | _ => False
theorem electlaw_FaceOf.RV_elim {R : Int → Int → Int → World → Prop} {v : Value} {w : World} (h : electlaw_FaceOf.RV R v w) : ∃ r_0 r_1 r_2, Ending.returned v = .returned (.agg #[.int .i64 r_0, .int .i64 r_1, .int .i64 r_2]) ∧ R r_0 r_1 r_2 w := by
  unfold electlaw_FaceOf.RV at h
  split at h
  · exact ⟨_, _, _, rfl, h⟩
  · exact h.elim
/-- (*e2e/electm.Elect).Tick -/
def electm_Elect_Tick.Call (e_1 : Option Addr) (w : World) (R : Int → World → Prop) : Prop :=
  Calls Try.prog 11 #[.pointer e_1] w fun e w' => ∃ r, e = .returned (.int .i64 r) ∧ R r w'
theorem electm_Elect_Tick.Call.mono {e_1} {w : World} {R R' : Int → World → Prop} (h : electm_Elect_Tick.Call e_1 w R) (hr : ∀ r w', R r w' → R' r w') : electm_Elect_Tick.Call e_1 w R' :=
  Calls.mono h fun e w' he => by
    obtain ⟨r, h1, h2⟩ := he
    exact ⟨r, h1, hr r w' h2⟩
def electm_Elect_Tick.RV (R : Int → World → Prop) (v : Value) (w : World) : Prop := match v with
  | .int .i64 r => R r w
  | _ => False
theorem electm_Elect_Tick.RV_elim {R : Int → World → Prop} {v : Value} {w : World} (h : electm_Elect_Tick.RV R v w) : ∃ r, Ending.returned v = .returned (.int .i64 r) ∧ R r w := by
  unfold electm_Elect_Tick.RV at h
  split at h
  · exact ⟨_, rfl, h⟩
  · exact h.elim
/-- (*e2e/electm.Elect).Id -/
def electm_Elect_Id.Call (e_1 : Option Addr) (w : World) (R : Int → World → Prop) : Prop :=
  Calls Try.prog 12 #[.pointer e_1] w fun e w' => ∃ r, e = .returned (.int .i64 r) ∧ R r w'
theorem electm_Elect_Id.Call.mono {e_1} {w : World} {R R' : Int → World → Prop} (h : electm_Elect_Id.Call e_1 w R) (hr : ∀ r w', R r w' → R' r w') : electm_Elect_Id.Call e_1 w R' :=
  Calls.mono h fun e w' he => by
    obtain ⟨r, h1, h2⟩ := he
    exact ⟨r, h1, hr r w' h2⟩
def electm_Elect_Id.RV (R : Int → World → Prop) (v : Value) (w : World) : Prop := match v with
  | .int .i64 r => R r w
  | _ => False
theorem electm_Elect_Id.RV_elim {R : Int → World → Prop} {v : Value} {w : World} (h : electm_Elect_Id.RV R v w) : ∃ r, Ending.returned v = .returned (.int .i64 r) ∧ R r w := by
  unfold electm_Elect_Id.RV at h
  split at h
  · exact ⟨_, rfl, h⟩
  · exact h.elim
/-- e2e/api.Timeout -/
def api_Timeout.Call (id0 : Int) (w : World) (R : Int → World → Prop) : Prop :=
  Calls Try.prog 13 #[.int .i64 id0] w fun e w' => ∃ r, e = .returned (.int .i64 r) ∧ R r w'
theorem api_Timeout.Call.mono {id0} {w : World} {R R' : Int → World → Prop} (h : api_Timeout.Call id0 w R) (hr : ∀ r w', R r w' → R' r w') : api_Timeout.Call id0 w R' :=
  Calls.mono h fun e w' he => by
    obtain ⟨r, h1, h2⟩ := he
    exact ⟨r, h1, hr r w' h2⟩
def api_Timeout.RV (R : Int → World → Prop) (v : Value) (w : World) : Prop := match v with
  | .int .i64 r => R r w
  | _ => False
theorem api_Timeout.RV_elim {R : Int → World → Prop} {v : Value} {w : World} (h : api_Timeout.RV R v w) : ∃ r, Ending.returned v = .returned (.int .i64 r) ∧ R r w := by
  unfold api_Timeout.RV at h
  split at h
  · exact ⟨_, rfl, h⟩
  · exact h.elim
/-- (*e2e/electm.Elect).See -/
def electm_Elect_See.Call (e_1 : Option Addr) (term : Int) (w : World) (R : Bool → World → Prop) : Prop :=
  Calls Try.prog 14 #[.pointer e_1, .int .i64 term] w fun e w' => ∃ r, e = .returned (.bool r) ∧ R r w'
theorem electm_Elect_See.Call.mono {e_1 term} {w : World} {R R' : Bool → World → Prop} (h : electm_Elect_See.Call e_1 term w R) (hr : ∀ r w', R r w' → R' r w') : electm_Elect_See.Call e_1 term w R' :=
  Calls.mono h fun e w' he => by
    obtain ⟨r, h1, h2⟩ := he
    exact ⟨r, h1, hr r w' h2⟩
def electm_Elect_See.RV (R : Bool → World → Prop) (v : Value) (w : World) : Prop := match v with
  | .bool r => R r w
  | _ => False
theorem electm_Elect_See.RV_elim {R : Bool → World → Prop} {v : Value} {w : World} (h : electm_Elect_See.RV R v w) : ∃ r, Ending.returned v = .returned (.bool r) ∧ R r w := by
  unfold electm_Elect_See.RV at h
  split at h
  · exact ⟨_, rfl, h⟩
  · exact h.elim
/-- (*e2e/electm.Elect).Term -/
def electm_Elect_Term.Call (e_1 : Option Addr) (w : World) (R : Int → World → Prop) : Prop :=
  Calls Try.prog 15 #[.pointer e_1] w fun e w' => ∃ r, e = .returned (.int .i64 r) ∧ R r w'
theorem electm_Elect_Term.Call.mono {e_1} {w : World} {R R' : Int → World → Prop} (h : electm_Elect_Term.Call e_1 w R) (hr : ∀ r w', R r w' → R' r w') : electm_Elect_Term.Call e_1 w R' :=
  Calls.mono h fun e w' he => by
    obtain ⟨r, h1, h2⟩ := he
    exact ⟨r, h1, hr r w' h2⟩
def electm_Elect_Term.RV (R : Int → World → Prop) (v : Value) (w : World) : Prop := match v with
  | .int .i64 r => R r w
  | _ => False
theorem electm_Elect_Term.RV_elim {R : Int → World → Prop} {v : Value} {w : World} (h : electm_Elect_Term.RV R v w) : ∃ r, Ending.returned v = .returned (.int .i64 r) ∧ R r w := by
  unfold electm_Elect_Term.RV at h
  split at h
  · exact ⟨_, rfl, h⟩
  · exact h.elim
/-- (*e2e/electm.Elect).AskedVote -/
def electm_Elect_AskedVote.Call (e_1 : Option Addr) (from0 term : Int) (upToDate : Bool) (w : World) (R : Bool → World → Prop) : Prop :=
  Calls Try.prog 16 #[.pointer e_1, .int .i64 from0, .int .i64 term, .bool upToDate] w fun e w' => ∃ r, e = .returned (.bool r) ∧ R r w'
theorem electm_Elect_AskedVote.Call.mono {e_1 from0 term upToDate} {w : World} {R R' : Bool → World → Prop} (h : electm_Elect_AskedVote.Call e_1 from0 term upToDate w R) (hr : ∀ r w', R r w' → R' r w') : electm_Elect_AskedVote.Call e_1 from0 term upToDate w R' :=
  Calls.mono h fun e w' he => by
    obtain ⟨r, h1, h2⟩ := he
    exact ⟨r, h1, hr r w' h2⟩
def electm_Elect_AskedVote.RV (R : Bool → World → Prop) (v : Value) (w : World) : Prop := match v with
  | .bool r => R r w
  | _ => False
theorem electm_Elect_AskedVote.RV_elim {R : Bool → World → Prop} {v : Value} {w : World} (h : electm_Elect_AskedVote.RV R v w) : ∃ r, Ending.returned v = .returned (.bool r) ∧ R r w := by
  unfold electm_Elect_AskedVote.RV at h
  split at h
  · exact ⟨_, rfl, h⟩
  · exact h.elim
/-- e2e/electlaw.Meant -/
def electlaw_Meant.Call (m0 : Option Addr) (from0 term : Int) (w : World) (R : Bool → World → Prop) : Prop :=
  Calls Try.prog 17 #[.pointer m0, .int .i64 from0, .int .i64 term] w fun e w' => ∃ r, e = .returned (.bool r) ∧ R r w'
theorem electlaw_Meant.Call.mono {m0 from0 term} {w : World} {R R' : Bool → World → Prop} (h : electlaw_Meant.Call m0 from0 term w R) (hr : ∀ r w', R r w' → R' r w') : electlaw_Meant.Call m0 from0 term w R' :=
  Calls.mono h fun e w' he => by
    obtain ⟨r, h1, h2⟩ := he
    exact ⟨r, h1, hr r w' h2⟩
def electlaw_Meant.RV (R : Bool → World → Prop) (v : Value) (w : World) : Prop := match v with
  | .bool r => R r w
  | _ => False
theorem electlaw_Meant.RV_elim {R : Bool → World → Prop} {v : Value} {w : World} (h : electlaw_Meant.RV R v w) : ∃ r, Ending.returned v = .returned (.bool r) ∧ R r w := by
  unfold electlaw_Meant.RV at h
  split at h
  · exact ⟨_, rfl, h⟩
  · exact h.elim
/-- (*e2e/electm.Elect).GotVote -/
def electm_Elect_GotVote.Call (e_1 : Option Addr) (from0 term : Int) (granted : Bool) (w : World) (R : Bool → World → Prop) : Prop :=
  Calls Try.prog 18 #[.pointer e_1, .int .i64 from0, .int .i64 term, .bool granted] w fun e w' => ∃ r, e = .returned (.bool r) ∧ R r w'
theorem electm_Elect_GotVote.Call.mono {e_1 from0 term granted} {w : World} {R R' : Bool → World → Prop} (h : electm_Elect_GotVote.Call e_1 from0 term granted w R) (hr : ∀ r w', R r w' → R' r w') : electm_Elect_GotVote.Call e_1 from0 term granted w R' :=
  Calls.mono h fun e w' he => by
    obtain ⟨r, h1, h2⟩ := he
    exact ⟨r, h1, hr r w' h2⟩
def electm_Elect_GotVote.RV (R : Bool → World → Prop) (v : Value) (w : World) : Prop := match v with
  | .bool r => R r w
  | _ => False
theorem electm_Elect_GotVote.RV_elim {R : Bool → World → Prop} {v : Value} {w : World} (h : electm_Elect_GotVote.RV R v w) : ∃ r, Ending.returned v = .returned (.bool r) ∧ R r w := by
  unfold electm_Elect_GotVote.RV at h
  split at h
  · exact ⟨_, rfl, h⟩
  · exact h.elim
/-- (*e2e/electm.Elect).Heard -/
def electm_Elect_Heard.Call (e_1 : Option Addr) (from0 term : Int) (w : World) (R : Bool → World → Prop) : Prop :=
  Calls Try.prog 19 #[.pointer e_1, .int .i64 from0, .int .i64 term] w fun e w' => ∃ r, e = .returned (.bool r) ∧ R r w'
theorem electm_Elect_Heard.Call.mono {e_1 from0 term} {w : World} {R R' : Bool → World → Prop} (h : electm_Elect_Heard.Call e_1 from0 term w R) (hr : ∀ r w', R r w' → R' r w') : electm_Elect_Heard.Call e_1 from0 term w R' :=
  Calls.mono h fun e w' he => by
    obtain ⟨r, h1, h2⟩ := he
    exact ⟨r, h1, hr r w' h2⟩
def electm_Elect_Heard.RV (R : Bool → World → Prop) (v : Value) (w : World) : Prop := match v with
  | .bool r => R r w
  | _ => False
theorem electm_Elect_Heard.RV_elim {R : Bool → World → Prop} {v : Value} {w : World} (h : electm_Elect_Heard.RV R v w) : ∃ r, Ending.returned v = .returned (.bool r) ∧ R r w := by
  unfold electm_Elect_Heard.RV at h
  split at h
  · exact ⟨_, rfl, h⟩
  · exact h.elim
/-- (*e2e/electm.Elect).Leader -/
def electm_Elect_Leader.Call (e_1 : Option Addr) (w : World) (R : Int → World → Prop) : Prop :=
  Calls Try.prog 20 #[.pointer e_1] w fun e w' => ∃ r, e = .returned (.int .i64 r) ∧ R r w'
theorem electm_Elect_Leader.Call.mono {e_1} {w : World} {R R' : Int → World → Prop} (h : electm_Elect_Leader.Call e_1 w R) (hr : ∀ r w', R r w' → R' r w') : electm_Elect_Leader.Call e_1 w R' :=
  Calls.mono h fun e w' he => by
    obtain ⟨r, h1, h2⟩ := he
    exact ⟨r, h1, hr r w' h2⟩
def electm_Elect_Leader.RV (R : Int → World → Prop) (v : Value) (w : World) : Prop := match v with
  | .int .i64 r => R r w
  | _ => False
theorem electm_Elect_Leader.RV_elim {R : Int → World → Prop} {v : Value} {w : World} (h : electm_Elect_Leader.RV R v w) : ∃ r, Ending.returned v = .returned (.int .i64 r) ∧ R r w := by
  unfold electm_Elect_Leader.RV at h
  split at h
  · exact ⟨_, rfl, h⟩
  · exact h.elim
/-- (*e2e/electm.Elect).Restore -/
def electm_Elect_Restore.Call (e_1 : Option Addr) (term vote : Int) (w : World) (R : Int → World → Prop) : Prop :=
  Calls Try.prog 21 #[.pointer e_1, .int .i64 term, .int .i64 vote] w fun e w' => ∃ r, e = .returned (.int .i64 r) ∧ R r w'
theorem electm_Elect_Restore.Call.mono {e_1 term vote} {w : World} {R R' : Int → World → Prop} (h : electm_Elect_Restore.Call e_1 term vote w R) (hr : ∀ r w', R r w' → R' r w') : electm_Elect_Restore.Call e_1 term vote w R' :=
  Calls.mono h fun e w' he => by
    obtain ⟨r, h1, h2⟩ := he
    exact ⟨r, h1, hr r w' h2⟩
def electm_Elect_Restore.RV (R : Int → World → Prop) (v : Value) (w : World) : Prop := match v with
  | .int .i64 r => R r w
  | _ => False
theorem electm_Elect_Restore.RV_elim {R : Int → World → Prop} {v : Value} {w : World} (h : electm_Elect_Restore.RV R v w) : ∃ r, Ending.returned v = .returned (.int .i64 r) ∧ R r w := by
  unfold electm_Elect_Restore.RV at h
  split at h
  · exact ⟨_, rfl, h⟩
  · exact h.elim
/-- e2e/electlaw.TermRises -/
def electlaw_TermRises.Call (a_0 a_1 a_2 b_0 b_1 b_2 : Int) (w : World) (R : Bool → World → Prop) : Prop :=
  Calls Try.prog 22 #[.agg #[.int .i64 a_0, .int .i64 a_1, .int .i64 a_2], .agg #[.int .i64 b_0, .int .i64 b_1, .int .i64 b_2]] w fun e w' => ∃ r, e = .returned (.bool r) ∧ R r w'
theorem electlaw_TermRises.Call.mono {a_0 a_1 a_2 b_0 b_1 b_2} {w : World} {R R' : Bool → World → Prop} (h : electlaw_TermRises.Call a_0 a_1 a_2 b_0 b_1 b_2 w R) (hr : ∀ r w', R r w' → R' r w') : electlaw_TermRises.Call a_0 a_1 a_2 b_0 b_1 b_2 w R' :=
  Calls.mono h fun e w' he => by
    obtain ⟨r, h1, h2⟩ := he
    exact ⟨r, h1, hr r w' h2⟩
def electlaw_TermRises.RV (R : Bool → World → Prop) (v : Value) (w : World) : Prop := match v with
  | .bool r => R r w
  | _ => False
theorem electlaw_TermRises.RV_elim {R : Bool → World → Prop} {v : Value} {w : World} (h : electlaw_TermRises.RV R v w) : ∃ r, Ending.returned v = .returned (.bool r) ∧ R r w := by
  unfold electlaw_TermRises.RV at h
  split at h
  · exact ⟨_, rfl, h⟩
  · exact h.elim
/-- e2e/electlaw.VotesOnce -/
def electlaw_VotesOnce.Call (a_0 a_1 a_2 b_0 b_1 b_2 : Int) (w : World) (R : Bool → World → Prop) : Prop :=
  Calls Try.prog 23 #[.agg #[.int .i64 a_0, .int .i64 a_1, .int .i64 a_2], .agg #[.int .i64 b_0, .int .i64 b_1, .int .i64 b_2]] w fun e w' => ∃ r, e = .returned (.bool r) ∧ R r w'
theorem electlaw_VotesOnce.Call.mono {a_0 a_1 a_2 b_0 b_1 b_2} {w : World} {R R' : Bool → World → Prop} (h : electlaw_VotesOnce.Call a_0 a_1 a_2 b_0 b_1 b_2 w R) (hr : ∀ r w', R r w' → R' r w') : electlaw_VotesOnce.Call a_0 a_1 a_2 b_0 b_1 b_2 w R' :=
  Calls.mono h fun e w' he => by
    obtain ⟨r, h1, h2⟩ := he
    exact ⟨r, h1, hr r w' h2⟩
def electlaw_VotesOnce.RV (R : Bool → World → Prop) (v : Value) (w : World) : Prop := match v with
  | .bool r => R r w
  | _ => False
theorem electlaw_VotesOnce.RV_elim {R : Bool → World → Prop} {v : Value} {w : World} (h : electlaw_VotesOnce.RV R v w) : ∃ r, Ending.returned v = .returned (.bool r) ∧ R r w := by
  unfold electlaw_VotesOnce.RV at h
  split at h
  · exact ⟨_, rfl, h⟩
  · exact h.elim
/-- e2e/electlaw.Foot -/
def electlaw_Foot.Call (a_0 a_1 a_2 b_0 b_1 b_2 : Int) (won campaign : Bool) (w : World) (R : Bool → World → Prop) : Prop :=
  Calls Try.prog 24 #[.agg #[.int .i64 a_0, .int .i64 a_1, .int .i64 a_2], .agg #[.int .i64 b_0, .int .i64 b_1, .int .i64 b_2], .bool won, .bool campaign] w fun e w' => ∃ r, e = .returned (.bool r) ∧ R r w'
theorem electlaw_Foot.Call.mono {a_0 a_1 a_2 b_0 b_1 b_2 won campaign} {w : World} {R R' : Bool → World → Prop} (h : electlaw_Foot.Call a_0 a_1 a_2 b_0 b_1 b_2 won campaign w R) (hr : ∀ r w', R r w' → R' r w') : electlaw_Foot.Call a_0 a_1 a_2 b_0 b_1 b_2 won campaign w R' :=
  Calls.mono h fun e w' he => by
    obtain ⟨r, h1, h2⟩ := he
    exact ⟨r, h1, hr r w' h2⟩
def electlaw_Foot.RV (R : Bool → World → Prop) (v : Value) (w : World) : Prop := match v with
  | .bool r => R r w
  | _ => False
theorem electlaw_Foot.RV_elim {R : Bool → World → Prop} {v : Value} {w : World} (h : electlaw_Foot.RV R v w) : ∃ r, Ending.returned v = .returned (.bool r) ∧ R r w := by
  unfold electlaw_Foot.RV at h
  split at h
  · exact ⟨_, rfl, h⟩
  · exact h.elim
/-- e2e/elect.New -/
def elect_New.Call (id0 : Int) (w : World) (R : Option Addr → World → Prop) : Prop :=
  Calls Try.prog 25 #[.int .i64 id0] w fun e w' => ∃ r, e = .returned (.pointer r) ∧ R r w'
theorem elect_New.Call.mono {id0} {w : World} {R R' : Option Addr → World → Prop} (h : elect_New.Call id0 w R) (hr : ∀ r w', R r w' → R' r w') : elect_New.Call id0 w R' :=
  Calls.mono h fun e w' he => by
    obtain ⟨r, h1, h2⟩ := he
    exact ⟨r, h1, hr r w' h2⟩
def elect_New.RV (R : Option Addr → World → Prop) (v : Value) (w : World) : Prop := match v with
  | .pointer r => R r w
  | _ => False
theorem elect_New.RV_elim {R : Option Addr → World → Prop} {v : Value} {w : World} (h : elect_New.RV R v w) : ∃ r, Ending.returned v = .returned (.pointer r) ∧ R r w := by
  unfold elect_New.RV at h
  split at h
  · exact ⟨_, rfl, h⟩
  · exact h.elim
/-- e2e/electlaw.Alike -/
def electlaw_Alike.Call (x m0 : Option Addr) (w : World) (R : Bool → World → Prop) : Prop :=
  Calls Try.prog 26 #[.pointer x, .pointer m0] w fun e w' => ∃ r, e = .returned (.bool r) ∧ R r w'
theorem electlaw_Alike.Call.mono {x m0} {w : World} {R R' : Bool → World → Prop} (h : electlaw_Alike.Call x m0 w R) (hr : ∀ r w', R r w' → R' r w') : electlaw_Alike.Call x m0 w R' :=
  Calls.mono h fun e w' he => by
    obtain ⟨r, h1, h2⟩ := he
    exact ⟨r, h1, hr r w' h2⟩
def electlaw_Alike.RV (R : Bool → World → Prop) (v : Value) (w : World) : Prop := match v with
  | .bool r => R r w
  | _ => False
theorem electlaw_Alike.RV_elim {R : Bool → World → Prop} {v : Value} {w : World} (h : electlaw_Alike.RV R v w) : ∃ r, Ending.returned v = .returned (.bool r) ∧ R r w := by
  unfold electlaw_Alike.RV at h
  split at h
  · exact ⟨_, rfl, h⟩
  · exact h.elim
/-- e2e/electlaw.Play -/
def electlaw_Play.Call (x m0 : Option Addr) (o_0 o_1 o_2 o_3 : Int) (o_4 o_5 : ByteArray) (w : World) (R : Bool → World → Prop) : Prop :=
  Calls Try.prog 27 #[.pointer x, .pointer m0, .agg #[.int .i64 o_0, .int .i64 o_1, .int .i64 o_2, .int .i64 o_3, .string o_4, .string o_5]] w fun e w' => ∃ r, e = .returned (.bool r) ∧ R r w'
theorem electlaw_Play.Call.mono {x m0 o_0 o_1 o_2 o_3 o_4 o_5} {w : World} {R R' : Bool → World → Prop} (h : electlaw_Play.Call x m0 o_0 o_1 o_2 o_3 o_4 o_5 w R) (hr : ∀ r w', R r w' → R' r w') : electlaw_Play.Call x m0 o_0 o_1 o_2 o_3 o_4 o_5 w R' :=
  Calls.mono h fun e w' he => by
    obtain ⟨r, h1, h2⟩ := he
    exact ⟨r, h1, hr r w' h2⟩
def electlaw_Play.RV (R : Bool → World → Prop) (v : Value) (w : World) : Prop := match v with
  | .bool r => R r w
  | _ => False
theorem electlaw_Play.RV_elim {R : Bool → World → Prop} {v : Value} {w : World} (h : electlaw_Play.RV R v w) : ∃ r, Ending.returned v = .returned (.bool r) ∧ R r w := by
  unfold electlaw_Play.RV at h
  split at h
  · exact ⟨_, rfl, h⟩
  · exact h.elim
/-- (*e2e/electm.Elect).Vote -/
def electm_Elect_Vote.Call (e_1 : Option Addr) (w : World) (R : Int → World → Prop) : Prop :=
  Calls Try.prog 28 #[.pointer e_1] w fun e w' => ∃ r, e = .returned (.int .i64 r) ∧ R r w'
theorem electm_Elect_Vote.Call.mono {e_1} {w : World} {R R' : Int → World → Prop} (h : electm_Elect_Vote.Call e_1 w R) (hr : ∀ r w', R r w' → R' r w') : electm_Elect_Vote.Call e_1 w R' :=
  Calls.mono h fun e w' he => by
    obtain ⟨r, h1, h2⟩ := he
    exact ⟨r, h1, hr r w' h2⟩
def electm_Elect_Vote.RV (R : Int → World → Prop) (v : Value) (w : World) : Prop := match v with
  | .int .i64 r => R r w
  | _ => False
theorem electm_Elect_Vote.RV_elim {R : Int → World → Prop} {v : Value} {w : World} (h : electm_Elect_Vote.RV R v w) : ∃ r, Ending.returned v = .returned (.int .i64 r) ∧ R r w := by
  unfold electm_Elect_Vote.RV at h
  split at h
  · exact ⟨_, rfl, h⟩
  · exact h.elim
/-- (*e2e/electm.Elect).Role -/
def electm_Elect_Role.Call (e_1 : Option Addr) (w : World) (R : Int → World → Prop) : Prop :=
  Calls Try.prog 29 #[.pointer e_1] w fun e w' => ∃ r, e = .returned (.int .i64 r) ∧ R r w'
theorem electm_Elect_Role.Call.mono {e_1} {w : World} {R R' : Int → World → Prop} (h : electm_Elect_Role.Call e_1 w R) (hr : ∀ r w', R r w' → R' r w') : electm_Elect_Role.Call e_1 w R' :=
  Calls.mono h fun e w' he => by
    obtain ⟨r, h1, h2⟩ := he
    exact ⟨r, h1, hr r w' h2⟩
def electm_Elect_Role.RV (R : Int → World → Prop) (v : Value) (w : World) : Prop := match v with
  | .int .i64 r => R r w
  | _ => False
theorem electm_Elect_Role.RV_elim {R : Int → World → Prop} {v : Value} {w : World} (h : electm_Elect_Role.RV R v w) : ∃ r, Ending.returned v = .returned (.int .i64 r) ∧ R r w := by
  unfold electm_Elect_Role.RV at h
  split at h
  · exact ⟨_, rfl, h⟩
  · exact h.elim
/-- (*e2e/electm.Elect).peer -/
def electm_Elect_peer.Call (e_1 : Option Addr) (p : Int) (w : World) (R : Bool → World → Prop) : Prop :=
  Calls Try.prog 30 #[.pointer e_1, .int .i64 p] w fun e w' => ∃ r, e = .returned (.bool r) ∧ R r w'
theorem electm_Elect_peer.Call.mono {e_1 p} {w : World} {R R' : Bool → World → Prop} (h : electm_Elect_peer.Call e_1 p w R) (hr : ∀ r w', R r w' → R' r w') : electm_Elect_peer.Call e_1 p w R' :=
  Calls.mono h fun e w' he => by
    obtain ⟨r, h1, h2⟩ := he
    exact ⟨r, h1, hr r w' h2⟩
def electm_Elect_peer.RV (R : Bool → World → Prop) (v : Value) (w : World) : Prop := match v with
  | .bool r => R r w
  | _ => False
theorem electm_Elect_peer.RV_elim {R : Bool → World → Prop} {v : Value} {w : World} (h : electm_Elect_peer.RV R v w) : ∃ r, Ending.returned v = .returned (.bool r) ∧ R r w := by
  unfold electm_Elect_peer.RV at h
  split at h
  · exact ⟨_, rfl, h⟩
  · exact h.elim
/-- (*e2e/elect.Elect).put -/
def elect_Elect_put.Call (e_1 : Option Addr) (role vote leader : Int) (w : World) (R : World → Prop) : Prop :=
  Calls Try.prog 31 #[.pointer e_1, .int .i64 role, .int .i64 vote, .int .i64 leader] w fun e w' => e = .returned (.tuple #[]) ∧ R w'
theorem elect_Elect_put.Call.mono {e_1 role vote leader} {w : World} {R R' : World → Prop} (h : elect_Elect_put.Call e_1 role vote leader w R) (hr : ∀ w', R w' → R'  w') : elect_Elect_put.Call e_1 role vote leader w R' :=
  Calls.mono h fun e w' he => by
    obtain ⟨h1, h2⟩ := he
    exact ⟨h1, hr  w' h2⟩
def elect_Elect_put.RV (R : World → Prop) (v : Value) (w : World) : Prop := match v with
  | .tuple ⟨[]⟩ => R w
  | _ => False
theorem elect_Elect_put.RV_elim {R : World → Prop} {v : Value} {w : World} (h : elect_Elect_put.RV R v w) : Ending.returned v = .returned (.tuple #[]) ∧ R w := by
  unfold elect_Elect_put.RV at h
  split at h
  · exact ⟨rfl, h⟩
  · exact h.elim
/-- (*e2e/elect.Elect).wind -/
def elect_Elect_wind.Call (e_1 : Option Addr) (w : World) (R : World → Prop) : Prop :=
  Calls Try.prog 32 #[.pointer e_1] w fun e w' => e = .returned (.tuple #[]) ∧ R w'
theorem elect_Elect_wind.Call.mono {e_1} {w : World} {R R' : World → Prop} (h : elect_Elect_wind.Call e_1 w R) (hr : ∀ w', R w' → R'  w') : elect_Elect_wind.Call e_1 w R' :=
  Calls.mono h fun e w' he => by
    obtain ⟨h1, h2⟩ := he
    exact ⟨h1, hr  w' h2⟩
def elect_Elect_wind.RV (R : World → Prop) (v : Value) (w : World) : Prop := match v with
  | .tuple ⟨[]⟩ => R w
  | _ => False
theorem elect_Elect_wind.RV_elim {R : World → Prop} {v : Value} {w : World} (h : elect_Elect_wind.RV R v w) : Ending.returned v = .returned (.tuple #[]) ∧ R w := by
  unfold elect_Elect_wind.RV at h
  split at h
  · exact ⟨rfl, h⟩
  · exact h.elim
/-- e2e/electlaw.SameGot -/
def electlaw_SameGot.Call (x m0 : Option Addr) (p : Int) (w : World) (R : Bool → World → Prop) : Prop :=
  Calls Try.prog 33 #[.pointer x, .pointer m0, .int .i64 p] w fun e w' => ∃ r, e = .returned (.bool r) ∧ R r w'
theorem electlaw_SameGot.Call.mono {x m0 p} {w : World} {R R' : Bool → World → Prop} (h : electlaw_SameGot.Call x m0 p w R) (hr : ∀ r w', R r w' → R' r w') : electlaw_SameGot.Call x m0 p w R' :=
  Calls.mono h fun e w' he => by
    obtain ⟨r, h1, h2⟩ := he
    exact ⟨r, h1, hr r w' h2⟩
def electlaw_SameGot.RV (R : Bool → World → Prop) (v : Value) (w : World) : Prop := match v with
  | .bool r => R r w
  | _ => False
theorem electlaw_SameGot.RV_elim {R : Bool → World → Prop} {v : Value} {w : World} (h : electlaw_SameGot.RV R v w) : ∃ r, Ending.returned v = .returned (.bool r) ∧ R r w := by
  unfold electlaw_SameGot.RV at h
  split at h
  · exact ⟨_, rfl, h⟩
  · exact h.elim
/-- e2e/electlaw.SameTick -/
def electlaw_SameTick.Call (x m0 : Option Addr) (w : World) (R : Bool → World → Prop) : Prop :=
  Calls Try.prog 34 #[.pointer x, .pointer m0] w fun e w' => ∃ r, e = .returned (.bool r) ∧ R r w'
theorem electlaw_SameTick.Call.mono {x m0} {w : World} {R R' : Bool → World → Prop} (h : electlaw_SameTick.Call x m0 w R) (hr : ∀ r w', R r w' → R' r w') : electlaw_SameTick.Call x m0 w R' :=
  Calls.mono h fun e w' he => by
    obtain ⟨r, h1, h2⟩ := he
    exact ⟨r, h1, hr r w' h2⟩
def electlaw_SameTick.RV (R : Bool → World → Prop) (v : Value) (w : World) : Prop := match v with
  | .bool r => R r w
  | _ => False
theorem electlaw_SameTick.RV_elim {R : Bool → World → Prop} {v : Value} {w : World} (h : electlaw_SameTick.RV R v w) : ∃ r, Ending.returned v = .returned (.bool r) ∧ R r w := by
  unfold electlaw_SameTick.RV at h
  split at h
  · exact ⟨_, rfl, h⟩
  · exact h.elim
/-- e2e/electlaw.SameSee -/
def electlaw_SameSee.Call (x m0 : Option Addr) (term : Int) (w : World) (R : Bool → World → Prop) : Prop :=
  Calls Try.prog 35 #[.pointer x, .pointer m0, .int .i64 term] w fun e w' => ∃ r, e = .returned (.bool r) ∧ R r w'
theorem electlaw_SameSee.Call.mono {x m0 term} {w : World} {R R' : Bool → World → Prop} (h : electlaw_SameSee.Call x m0 term w R) (hr : ∀ r w', R r w' → R' r w') : electlaw_SameSee.Call x m0 term w R' :=
  Calls.mono h fun e w' he => by
    obtain ⟨r, h1, h2⟩ := he
    exact ⟨r, h1, hr r w' h2⟩
def electlaw_SameSee.RV (R : Bool → World → Prop) (v : Value) (w : World) : Prop := match v with
  | .bool r => R r w
  | _ => False
theorem electlaw_SameSee.RV_elim {R : Bool → World → Prop} {v : Value} {w : World} (h : electlaw_SameSee.RV R v w) : ∃ r, Ending.returned v = .returned (.bool r) ∧ R r w := by
  unfold electlaw_SameSee.RV at h
  split at h
  · exact ⟨_, rfl, h⟩
  · exact h.elim
/-- e2e/electlaw.SameAskedVote -/
def electlaw_SameAskedVote.Call (x m0 : Option Addr) (from0 term : Int) (up : Bool) (w : World) (R : Bool → World → Prop) : Prop :=
  Calls Try.prog 36 #[.pointer x, .pointer m0, .int .i64 from0, .int .i64 term, .bool up] w fun e w' => ∃ r, e = .returned (.bool r) ∧ R r w'
theorem electlaw_SameAskedVote.Call.mono {x m0 from0 term up} {w : World} {R R' : Bool → World → Prop} (h : electlaw_SameAskedVote.Call x m0 from0 term up w R) (hr : ∀ r w', R r w' → R' r w') : electlaw_SameAskedVote.Call x m0 from0 term up w R' :=
  Calls.mono h fun e w' he => by
    obtain ⟨r, h1, h2⟩ := he
    exact ⟨r, h1, hr r w' h2⟩
def electlaw_SameAskedVote.RV (R : Bool → World → Prop) (v : Value) (w : World) : Prop := match v with
  | .bool r => R r w
  | _ => False
theorem electlaw_SameAskedVote.RV_elim {R : Bool → World → Prop} {v : Value} {w : World} (h : electlaw_SameAskedVote.RV R v w) : ∃ r, Ending.returned v = .returned (.bool r) ∧ R r w := by
  unfold electlaw_SameAskedVote.RV at h
  split at h
  · exact ⟨_, rfl, h⟩
  · exact h.elim
/-- e2e/electlaw.SameGotVote -/
def electlaw_SameGotVote.Call (x m0 : Option Addr) (from0 term : Int) (granted : Bool) (w : World) (R : Bool → World → Prop) : Prop :=
  Calls Try.prog 37 #[.pointer x, .pointer m0, .int .i64 from0, .int .i64 term, .bool granted] w fun e w' => ∃ r, e = .returned (.bool r) ∧ R r w'
theorem electlaw_SameGotVote.Call.mono {x m0 from0 term granted} {w : World} {R R' : Bool → World → Prop} (h : electlaw_SameGotVote.Call x m0 from0 term granted w R) (hr : ∀ r w', R r w' → R' r w') : electlaw_SameGotVote.Call x m0 from0 term granted w R' :=
  Calls.mono h fun e w' he => by
    obtain ⟨r, h1, h2⟩ := he
    exact ⟨r, h1, hr r w' h2⟩
def electlaw_SameGotVote.RV (R : Bool → World → Prop) (v : Value) (w : World) : Prop := match v with
  | .bool r => R r w
  | _ => False
theorem electlaw_SameGotVote.RV_elim {R : Bool → World → Prop} {v : Value} {w : World} (h : electlaw_SameGotVote.RV R v w) : ∃ r, Ending.returned v = .returned (.bool r) ∧ R r w := by
  unfold electlaw_SameGotVote.RV at h
  split at h
  · exact ⟨_, rfl, h⟩
  · exact h.elim
/-- e2e/electlaw.SameHeard -/
def electlaw_SameHeard.Call (x m0 : Option Addr) (from0 term : Int) (w : World) (R : Bool → World → Prop) : Prop :=
  Calls Try.prog 38 #[.pointer x, .pointer m0, .int .i64 from0, .int .i64 term] w fun e w' => ∃ r, e = .returned (.bool r) ∧ R r w'
theorem electlaw_SameHeard.Call.mono {x m0 from0 term} {w : World} {R R' : Bool → World → Prop} (h : electlaw_SameHeard.Call x m0 from0 term w R) (hr : ∀ r w', R r w' → R' r w') : electlaw_SameHeard.Call x m0 from0 term w R' :=
  Calls.mono h fun e w' he => by
    obtain ⟨r, h1, h2⟩ := he
    exact ⟨r, h1, hr r w' h2⟩
def electlaw_SameHeard.RV (R : Bool → World → Prop) (v : Value) (w : World) : Prop := match v with
  | .bool r => R r w
  | _ => False
theorem electlaw_SameHeard.RV_elim {R : Bool → World → Prop} {v : Value} {w : World} (h : electlaw_SameHeard.RV R v w) : ∃ r, Ending.returned v = .returned (.bool r) ∧ R r w := by
  unfold electlaw_SameHeard.RV at h
  split at h
  · exact ⟨_, rfl, h⟩
  · exact h.elim
/-- e2e/electlaw.SameRestore -/
def electlaw_SameRestore.Call (x m0 : Option Addr) (term vote : Int) (w : World) (R : Bool → World → Prop) : Prop :=
  Calls Try.prog 39 #[.pointer x, .pointer m0, .int .i64 term, .int .i64 vote] w fun e w' => ∃ r, e = .returned (.bool r) ∧ R r w'
theorem electlaw_SameRestore.Call.mono {x m0 term vote} {w : World} {R R' : Bool → World → Prop} (h : electlaw_SameRestore.Call x m0 term vote w R) (hr : ∀ r w', R r w' → R' r w') : electlaw_SameRestore.Call x m0 term vote w R' :=
  Calls.mono h fun e w' he => by
    obtain ⟨r, h1, h2⟩ := he
    exact ⟨r, h1, hr r w' h2⟩
def electlaw_SameRestore.RV (R : Bool → World → Prop) (v : Value) (w : World) : Prop := match v with
  | .bool r => R r w
  | _ => False
theorem electlaw_SameRestore.RV_elim {R : Bool → World → Prop} {v : Value} {w : World} (h : electlaw_SameRestore.RV R v w) : ∃ r, Ending.returned v = .returned (.bool r) ∧ R r w := by
  unfold electlaw_SameRestore.RV at h
  split at h
  · exact ⟨_, rfl, h⟩
  · exact h.elim
/-- e2e/electlaw.SameId -/
def electlaw_SameId.Call (x m0 : Option Addr) (w : World) (R : Bool → World → Prop) : Prop :=
  Calls Try.prog 40 #[.pointer x, .pointer m0] w fun e w' => ∃ r, e = .returned (.bool r) ∧ R r w'
theorem electlaw_SameId.Call.mono {x m0} {w : World} {R R' : Bool → World → Prop} (h : electlaw_SameId.Call x m0 w R) (hr : ∀ r w', R r w' → R' r w') : electlaw_SameId.Call x m0 w R' :=
  Calls.mono h fun e w' he => by
    obtain ⟨r, h1, h2⟩ := he
    exact ⟨r, h1, hr r w' h2⟩
def electlaw_SameId.RV (R : Bool → World → Prop) (v : Value) (w : World) : Prop := match v with
  | .bool r => R r w
  | _ => False
theorem electlaw_SameId.RV_elim {R : Bool → World → Prop} {v : Value} {w : World} (h : electlaw_SameId.RV R v w) : ∃ r, Ending.returned v = .returned (.bool r) ∧ R r w := by
  unfold electlaw_SameId.RV at h
  split at h
  · exact ⟨_, rfl, h⟩
  · exact h.elim
/-- e2e/electlaw.SameTerm -/
def electlaw_SameTerm.Call (x m0 : Option Addr) (w : World) (R : Bool → World → Prop) : Prop :=
  Calls Try.prog 41 #[.pointer x, .pointer m0] w fun e w' => ∃ r, e = .returned (.bool r) ∧ R r w'
theorem electlaw_SameTerm.Call.mono {x m0} {w : World} {R R' : Bool → World → Prop} (h : electlaw_SameTerm.Call x m0 w R) (hr : ∀ r w', R r w' → R' r w') : electlaw_SameTerm.Call x m0 w R' :=
  Calls.mono h fun e w' he => by
    obtain ⟨r, h1, h2⟩ := he
    exact ⟨r, h1, hr r w' h2⟩
def electlaw_SameTerm.RV (R : Bool → World → Prop) (v : Value) (w : World) : Prop := match v with
  | .bool r => R r w
  | _ => False
theorem electlaw_SameTerm.RV_elim {R : Bool → World → Prop} {v : Value} {w : World} (h : electlaw_SameTerm.RV R v w) : ∃ r, Ending.returned v = .returned (.bool r) ∧ R r w := by
  unfold electlaw_SameTerm.RV at h
  split at h
  · exact ⟨_, rfl, h⟩
  · exact h.elim
/-- e2e/electlaw.SameVote -/
def electlaw_SameVote.Call (x m0 : Option Addr) (w : World) (R : Bool → World → Prop) : Prop :=
  Calls Try.prog 42 #[.pointer x, .pointer m0] w fun e w' => ∃ r, e = .returned (.bool r) ∧ R r w'
theorem electlaw_SameVote.Call.mono {x m0} {w : World} {R R' : Bool → World → Prop} (h : electlaw_SameVote.Call x m0 w R) (hr : ∀ r w', R r w' → R' r w') : electlaw_SameVote.Call x m0 w R' :=
  Calls.mono h fun e w' he => by
    obtain ⟨r, h1, h2⟩ := he
    exact ⟨r, h1, hr r w' h2⟩
def electlaw_SameVote.RV (R : Bool → World → Prop) (v : Value) (w : World) : Prop := match v with
  | .bool r => R r w
  | _ => False
theorem electlaw_SameVote.RV_elim {R : Bool → World → Prop} {v : Value} {w : World} (h : electlaw_SameVote.RV R v w) : ∃ r, Ending.returned v = .returned (.bool r) ∧ R r w := by
  unfold electlaw_SameVote.RV at h
  split at h
  · exact ⟨_, rfl, h⟩
  · exact h.elim
/-- e2e/electlaw.SameRole -/
def electlaw_SameRole.Call (x m0 : Option Addr) (w : World) (R : Bool → World → Prop) : Prop :=
  Calls Try.prog 43 #[.pointer x, .pointer m0] w fun e w' => ∃ r, e = .returned (.bool r) ∧ R r w'
theorem electlaw_SameRole.Call.mono {x m0} {w : World} {R R' : Bool → World → Prop} (h : electlaw_SameRole.Call x m0 w R) (hr : ∀ r w', R r w' → R' r w') : electlaw_SameRole.Call x m0 w R' :=
  Calls.mono h fun e w' he => by
    obtain ⟨r, h1, h2⟩ := he
    exact ⟨r, h1, hr r w' h2⟩
def electlaw_SameRole.RV (R : Bool → World → Prop) (v : Value) (w : World) : Prop := match v with
  | .bool r => R r w
  | _ => False
theorem electlaw_SameRole.RV_elim {R : Bool → World → Prop} {v : Value} {w : World} (h : electlaw_SameRole.RV R v w) : ∃ r, Ending.returned v = .returned (.bool r) ∧ R r w := by
  unfold electlaw_SameRole.RV at h
  split at h
  · exact ⟨_, rfl, h⟩
  · exact h.elim
/-- e2e/electlaw.SameLeader -/
def electlaw_SameLeader.Call (x m0 : Option Addr) (w : World) (R : Bool → World → Prop) : Prop :=
  Calls Try.prog 44 #[.pointer x, .pointer m0] w fun e w' => ∃ r, e = .returned (.bool r) ∧ R r w'
theorem electlaw_SameLeader.Call.mono {x m0} {w : World} {R R' : Bool → World → Prop} (h : electlaw_SameLeader.Call x m0 w R) (hr : ∀ r w', R r w' → R' r w') : electlaw_SameLeader.Call x m0 w R' :=
  Calls.mono h fun e w' he => by
    obtain ⟨r, h1, h2⟩ := he
    exact ⟨r, h1, hr r w' h2⟩
def electlaw_SameLeader.RV (R : Bool → World → Prop) (v : Value) (w : World) : Prop := match v with
  | .bool r => R r w
  | _ => False
theorem electlaw_SameLeader.RV_elim {R : Bool → World → Prop} {v : Value} {w : World} (h : electlaw_SameLeader.RV R v w) : ∃ r, Ending.returned v = .returned (.bool r) ∧ R r w := by
  unfold electlaw_SameLeader.RV at h
  split at h
  · exact ⟨_, rfl, h⟩
  · exact h.elim
/-- e2e/electlaw.SameClock -/
def electlaw_SameClock.Call (x m0 : Option Addr) (w : World) (R : Bool → World → Prop) : Prop :=
  Calls Try.prog 45 #[.pointer x, .pointer m0] w fun e w' => ∃ r, e = .returned (.bool r) ∧ R r w'
theorem electlaw_SameClock.Call.mono {x m0} {w : World} {R R' : Bool → World → Prop} (h : electlaw_SameClock.Call x m0 w R) (hr : ∀ r w', R r w' → R' r w') : electlaw_SameClock.Call x m0 w R' :=
  Calls.mono h fun e w' he => by
    obtain ⟨r, h1, h2⟩ := he
    exact ⟨r, h1, hr r w' h2⟩
def electlaw_SameClock.RV (R : Bool → World → Prop) (v : Value) (w : World) : Prop := match v with
  | .bool r => R r w
  | _ => False
theorem electlaw_SameClock.RV_elim {R : Bool → World → Prop} {v : Value} {w : World} (h : electlaw_SameClock.RV R v w) : ∃ r, Ending.returned v = .returned (.bool r) ∧ R r w := by
  unfold electlaw_SameClock.RV at h
  split at h
  · exact ⟨_, rfl, h⟩
  · exact h.elim
/-- e2e/electlaw.Sound -/
def electlaw_Sound.Call (x : Option Addr) (w : World) (R : Bool → World → Prop) : Prop :=
  Calls Try.prog 46 #[.pointer x] w fun e w' => ∃ r, e = .returned (.bool r) ∧ R r w'
theorem electlaw_Sound.Call.mono {x} {w : World} {R R' : Bool → World → Prop} (h : electlaw_Sound.Call x w R) (hr : ∀ r w', R r w' → R' r w') : electlaw_Sound.Call x w R' :=
  Calls.mono h fun e w' he => by
    obtain ⟨r, h1, h2⟩ := he
    exact ⟨r, h1, hr r w' h2⟩
def electlaw_Sound.RV (R : Bool → World → Prop) (v : Value) (w : World) : Prop := match v with
  | .bool r => R r w
  | _ => False
theorem electlaw_Sound.RV_elim {R : Bool → World → Prop} {v : Value} {w : World} (h : electlaw_Sound.RV R v w) : ∃ r, Ending.returned v = .returned (.bool r) ∧ R r w := by
  unfold electlaw_Sound.RV at h
  split at h
  · exact ⟨_, rfl, h⟩
  · exact h.elim
/-- (*e2e/elect.Elect).Got -/
def elect_Elect_Got.Call (e_1 : Option Addr) (p : Int) (w : World) (R : Bool → World → Prop) : Prop :=
  Calls Try.prog 47 #[.pointer e_1, .int .i64 p] w fun e w' => ∃ r, e = .returned (.bool r) ∧ R r w'
theorem elect_Elect_Got.Call.mono {e_1 p} {w : World} {R R' : Bool → World → Prop} (h : elect_Elect_Got.Call e_1 p w R) (hr : ∀ r w', R r w' → R' r w') : elect_Elect_Got.Call e_1 p w R' :=
  Calls.mono h fun e w' he => by
    obtain ⟨r, h1, h2⟩ := he
    exact ⟨r, h1, hr r w' h2⟩
def elect_Elect_Got.RV (R : Bool → World → Prop) (v : Value) (w : World) : Prop := match v with
  | .bool r => R r w
  | _ => False
theorem elect_Elect_Got.RV_elim {R : Bool → World → Prop} {v : Value} {w : World} (h : elect_Elect_Got.RV R v w) : ∃ r, Ending.returned v = .returned (.bool r) ∧ R r w := by
  unfold elect_Elect_Got.RV at h
  split at h
  · exact ⟨_, rfl, h⟩
  · exact h.elim
/-- (*e2e/electm.Elect).Got -/
def electm_Elect_Got.Call (e_1 : Option Addr) (p : Int) (w : World) (R : Bool → World → Prop) : Prop :=
  Calls Try.prog 48 #[.pointer e_1, .int .i64 p] w fun e w' => ∃ r, e = .returned (.bool r) ∧ R r w'
theorem electm_Elect_Got.Call.mono {e_1 p} {w : World} {R R' : Bool → World → Prop} (h : electm_Elect_Got.Call e_1 p w R) (hr : ∀ r w', R r w' → R' r w') : electm_Elect_Got.Call e_1 p w R' :=
  Calls.mono h fun e w' he => by
    obtain ⟨r, h1, h2⟩ := he
    exact ⟨r, h1, hr r w' h2⟩
def electm_Elect_Got.RV (R : Bool → World → Prop) (v : Value) (w : World) : Prop := match v with
  | .bool r => R r w
  | _ => False
theorem electm_Elect_Got.RV_elim {R : Bool → World → Prop} {v : Value} {w : World} (h : electm_Elect_Got.RV R v w) : ∃ r, Ending.returned v = .returned (.bool r) ∧ R r w := by
  unfold electm_Elect_Got.RV at h
  split at h
  · exact ⟨_, rfl, h⟩
  · exact h.elim
/-- (*e2e/elect.Elect).Tick -/
def elect_Elect_Tick.Call (e_1 : Option Addr) (w : World) (R : Int → World → Prop) : Prop :=
  Calls Try.prog 49 #[.pointer e_1] w fun e w' => ∃ r, e = .returned (.int .i64 r) ∧ R r w'
theorem elect_Elect_Tick.Call.mono {e_1} {w : World} {R R' : Int → World → Prop} (h : elect_Elect_Tick.Call e_1 w R) (hr : ∀ r w', R r w' → R' r w') : elect_Elect_Tick.Call e_1 w R' :=
  Calls.mono h fun e w' he => by
    obtain ⟨r, h1, h2⟩ := he
    exact ⟨r, h1, hr r w' h2⟩
def elect_Elect_Tick.RV (R : Int → World → Prop) (v : Value) (w : World) : Prop := match v with
  | .int .i64 r => R r w
  | _ => False
theorem elect_Elect_Tick.RV_elim {R : Int → World → Prop} {v : Value} {w : World} (h : elect_Elect_Tick.RV R v w) : ∃ r, Ending.returned v = .returned (.int .i64 r) ∧ R r w := by
  unfold elect_Elect_Tick.RV at h
  split at h
  · exact ⟨_, rfl, h⟩
  · exact h.elim
/-- (*e2e/elect.Elect).See -/
def elect_Elect_See.Call (e_1 : Option Addr) (term : Int) (w : World) (R : Bool → World → Prop) : Prop :=
  Calls Try.prog 50 #[.pointer e_1, .int .i64 term] w fun e w' => ∃ r, e = .returned (.bool r) ∧ R r w'
theorem elect_Elect_See.Call.mono {e_1 term} {w : World} {R R' : Bool → World → Prop} (h : elect_Elect_See.Call e_1 term w R) (hr : ∀ r w', R r w' → R' r w') : elect_Elect_See.Call e_1 term w R' :=
  Calls.mono h fun e w' he => by
    obtain ⟨r, h1, h2⟩ := he
    exact ⟨r, h1, hr r w' h2⟩
def elect_Elect_See.RV (R : Bool → World → Prop) (v : Value) (w : World) : Prop := match v with
  | .bool r => R r w
  | _ => False
theorem elect_Elect_See.RV_elim {R : Bool → World → Prop} {v : Value} {w : World} (h : elect_Elect_See.RV R v w) : ∃ r, Ending.returned v = .returned (.bool r) ∧ R r w := by
  unfold elect_Elect_See.RV at h
  split at h
  · exact ⟨_, rfl, h⟩
  · exact h.elim
/-- (*e2e/elect.Elect).AskedVote -/
def elect_Elect_AskedVote.Call (e_1 : Option Addr) (from0 term : Int) (upToDate : Bool) (w : World) (R : Bool → World → Prop) : Prop :=
  Calls Try.prog 51 #[.pointer e_1, .int .i64 from0, .int .i64 term, .bool upToDate] w fun e w' => ∃ r, e = .returned (.bool r) ∧ R r w'
theorem elect_Elect_AskedVote.Call.mono {e_1 from0 term upToDate} {w : World} {R R' : Bool → World → Prop} (h : elect_Elect_AskedVote.Call e_1 from0 term upToDate w R) (hr : ∀ r w', R r w' → R' r w') : elect_Elect_AskedVote.Call e_1 from0 term upToDate w R' :=
  Calls.mono h fun e w' he => by
    obtain ⟨r, h1, h2⟩ := he
    exact ⟨r, h1, hr r w' h2⟩
def elect_Elect_AskedVote.RV (R : Bool → World → Prop) (v : Value) (w : World) : Prop := match v with
  | .bool r => R r w
  | _ => False
theorem elect_Elect_AskedVote.RV_elim {R : Bool → World → Prop} {v : Value} {w : World} (h : elect_Elect_AskedVote.RV R v w) : ∃ r, Ending.returned v = .returned (.bool r) ∧ R r w := by
  unfold elect_Elect_AskedVote.RV at h
  split at h
  · exact ⟨_, rfl, h⟩
  · exact h.elim
/-- (*e2e/elect.Elect).GotVote -/
def elect_Elect_GotVote.Call (e_1 : Option Addr) (from0 term : Int) (granted : Bool) (w : World) (R : Bool → World → Prop) : Prop :=
  Calls Try.prog 52 #[.pointer e_1, .int .i64 from0, .int .i64 term, .bool granted] w fun e w' => ∃ r, e = .returned (.bool r) ∧ R r w'
theorem elect_Elect_GotVote.Call.mono {e_1 from0 term granted} {w : World} {R R' : Bool → World → Prop} (h : elect_Elect_GotVote.Call e_1 from0 term granted w R) (hr : ∀ r w', R r w' → R' r w') : elect_Elect_GotVote.Call e_1 from0 term granted w R' :=
  Calls.mono h fun e w' he => by
    obtain ⟨r, h1, h2⟩ := he
    exact ⟨r, h1, hr r w' h2⟩
def elect_Elect_GotVote.RV (R : Bool → World → Prop) (v : Value) (w : World) : Prop := match v with
  | .bool r => R r w
  | _ => False
theorem elect_Elect_GotVote.RV_elim {R : Bool → World → Prop} {v : Value} {w : World} (h : elect_Elect_GotVote.RV R v w) : ∃ r, Ending.returned v = .returned (.bool r) ∧ R r w := by
  unfold elect_Elect_GotVote.RV at h
  split at h
  · exact ⟨_, rfl, h⟩
  · exact h.elim
/-- (*e2e/elect.Elect).Heard -/
def elect_Elect_Heard.Call (e_1 : Option Addr) (from0 term : Int) (w : World) (R : Bool → World → Prop) : Prop :=
  Calls Try.prog 53 #[.pointer e_1, .int .i64 from0, .int .i64 term] w fun e w' => ∃ r, e = .returned (.bool r) ∧ R r w'
theorem elect_Elect_Heard.Call.mono {e_1 from0 term} {w : World} {R R' : Bool → World → Prop} (h : elect_Elect_Heard.Call e_1 from0 term w R) (hr : ∀ r w', R r w' → R' r w') : elect_Elect_Heard.Call e_1 from0 term w R' :=
  Calls.mono h fun e w' he => by
    obtain ⟨r, h1, h2⟩ := he
    exact ⟨r, h1, hr r w' h2⟩
def elect_Elect_Heard.RV (R : Bool → World → Prop) (v : Value) (w : World) : Prop := match v with
  | .bool r => R r w
  | _ => False
theorem elect_Elect_Heard.RV_elim {R : Bool → World → Prop} {v : Value} {w : World} (h : elect_Elect_Heard.RV R v w) : ∃ r, Ending.returned v = .returned (.bool r) ∧ R r w := by
  unfold elect_Elect_Heard.RV at h
  split at h
  · exact ⟨_, rfl, h⟩
  · exact h.elim
/-- (*e2e/elect.Elect).Restore -/
def elect_Elect_Restore.Call (e_1 : Option Addr) (term vote : Int) (w : World) (R : Int → World → Prop) : Prop :=
  Calls Try.prog 54 #[.pointer e_1, .int .i64 term, .int .i64 vote] w fun e w' => ∃ r, e = .returned (.int .i64 r) ∧ R r w'
theorem elect_Elect_Restore.Call.mono {e_1 term vote} {w : World} {R R' : Int → World → Prop} (h : elect_Elect_Restore.Call e_1 term vote w R) (hr : ∀ r w', R r w' → R' r w') : elect_Elect_Restore.Call e_1 term vote w R' :=
  Calls.mono h fun e w' he => by
    obtain ⟨r, h1, h2⟩ := he
    exact ⟨r, h1, hr r w' h2⟩
def elect_Elect_Restore.RV (R : Int → World → Prop) (v : Value) (w : World) : Prop := match v with
  | .int .i64 r => R r w
  | _ => False
theorem elect_Elect_Restore.RV_elim {R : Int → World → Prop} {v : Value} {w : World} (h : elect_Elect_Restore.RV R v w) : ∃ r, Ending.returned v = .returned (.int .i64 r) ∧ R r w := by
  unfold elect_Elect_Restore.RV at h
  split at h
  · exact ⟨_, rfl, h⟩
  · exact h.elim
/-- (*e2e/elect.Elect).Id -/
def elect_Elect_Id.Call (e_1 : Option Addr) (w : World) (R : Int → World → Prop) : Prop :=
  Calls Try.prog 55 #[.pointer e_1] w fun e w' => ∃ r, e = .returned (.int .i64 r) ∧ R r w'
theorem elect_Elect_Id.Call.mono {e_1} {w : World} {R R' : Int → World → Prop} (h : elect_Elect_Id.Call e_1 w R) (hr : ∀ r w', R r w' → R' r w') : elect_Elect_Id.Call e_1 w R' :=
  Calls.mono h fun e w' he => by
    obtain ⟨r, h1, h2⟩ := he
    exact ⟨r, h1, hr r w' h2⟩
def elect_Elect_Id.RV (R : Int → World → Prop) (v : Value) (w : World) : Prop := match v with
  | .int .i64 r => R r w
  | _ => False
theorem elect_Elect_Id.RV_elim {R : Int → World → Prop} {v : Value} {w : World} (h : elect_Elect_Id.RV R v w) : ∃ r, Ending.returned v = .returned (.int .i64 r) ∧ R r w := by
  unfold elect_Elect_Id.RV at h
  split at h
  · exact ⟨_, rfl, h⟩
  · exact h.elim
/-- (*e2e/elect.Elect).Term -/
def elect_Elect_Term.Call (e_1 : Option Addr) (w : World) (R : Int → World → Prop) : Prop :=
  Calls Try.prog 56 #[.pointer e_1] w fun e w' => ∃ r, e = .returned (.int .i64 r) ∧ R r w'
theorem elect_Elect_Term.Call.mono {e_1} {w : World} {R R' : Int → World → Prop} (h : elect_Elect_Term.Call e_1 w R) (hr : ∀ r w', R r w' → R' r w') : elect_Elect_Term.Call e_1 w R' :=
  Calls.mono h fun e w' he => by
    obtain ⟨r, h1, h2⟩ := he
    exact ⟨r, h1, hr r w' h2⟩
def elect_Elect_Term.RV (R : Int → World → Prop) (v : Value) (w : World) : Prop := match v with
  | .int .i64 r => R r w
  | _ => False
theorem elect_Elect_Term.RV_elim {R : Int → World → Prop} {v : Value} {w : World} (h : elect_Elect_Term.RV R v w) : ∃ r, Ending.returned v = .returned (.int .i64 r) ∧ R r w := by
  unfold elect_Elect_Term.RV at h
  split at h
  · exact ⟨_, rfl, h⟩
  · exact h.elim
/-- (*e2e/elect.Elect).Vote -/
def elect_Elect_Vote.Call (e_1 : Option Addr) (w : World) (R : Int → World → Prop) : Prop :=
  Calls Try.prog 57 #[.pointer e_1] w fun e w' => ∃ r, e = .returned (.int .i64 r) ∧ R r w'
theorem elect_Elect_Vote.Call.mono {e_1} {w : World} {R R' : Int → World → Prop} (h : elect_Elect_Vote.Call e_1 w R) (hr : ∀ r w', R r w' → R' r w') : elect_Elect_Vote.Call e_1 w R' :=
  Calls.mono h fun e w' he => by
    obtain ⟨r, h1, h2⟩ := he
    exact ⟨r, h1, hr r w' h2⟩
def elect_Elect_Vote.RV (R : Int → World → Prop) (v : Value) (w : World) : Prop := match v with
  | .int .i64 r => R r w
  | _ => False
theorem elect_Elect_Vote.RV_elim {R : Int → World → Prop} {v : Value} {w : World} (h : elect_Elect_Vote.RV R v w) : ∃ r, Ending.returned v = .returned (.int .i64 r) ∧ R r w := by
  unfold elect_Elect_Vote.RV at h
  split at h
  · exact ⟨_, rfl, h⟩
  · exact h.elim
/-- (*e2e/elect.Elect).Role -/
def elect_Elect_Role.Call (e_1 : Option Addr) (w : World) (R : Int → World → Prop) : Prop :=
  Calls Try.prog 58 #[.pointer e_1] w fun e w' => ∃ r, e = .returned (.int .i64 r) ∧ R r w'
theorem elect_Elect_Role.Call.mono {e_1} {w : World} {R R' : Int → World → Prop} (h : elect_Elect_Role.Call e_1 w R) (hr : ∀ r w', R r w' → R' r w') : elect_Elect_Role.Call e_1 w R' :=
  Calls.mono h fun e w' he => by
    obtain ⟨r, h1, h2⟩ := he
    exact ⟨r, h1, hr r w' h2⟩
def elect_Elect_Role.RV (R : Int → World → Prop) (v : Value) (w : World) : Prop := match v with
  | .int .i64 r => R r w
  | _ => False
theorem elect_Elect_Role.RV_elim {R : Int → World → Prop} {v : Value} {w : World} (h : elect_Elect_Role.RV R v w) : ∃ r, Ending.returned v = .returned (.int .i64 r) ∧ R r w := by
  unfold elect_Elect_Role.RV at h
  split at h
  · exact ⟨_, rfl, h⟩
  · exact h.elim
/-- (*e2e/elect.Elect).Leader -/
def elect_Elect_Leader.Call (e_1 : Option Addr) (w : World) (R : Int → World → Prop) : Prop :=
  Calls Try.prog 59 #[.pointer e_1] w fun e w' => ∃ r, e = .returned (.int .i64 r) ∧ R r w'
theorem elect_Elect_Leader.Call.mono {e_1} {w : World} {R R' : Int → World → Prop} (h : elect_Elect_Leader.Call e_1 w R) (hr : ∀ r w', R r w' → R' r w') : elect_Elect_Leader.Call e_1 w R' :=
  Calls.mono h fun e w' he => by
    obtain ⟨r, h1, h2⟩ := he
    exact ⟨r, h1, hr r w' h2⟩
def elect_Elect_Leader.RV (R : Int → World → Prop) (v : Value) (w : World) : Prop := match v with
  | .int .i64 r => R r w
  | _ => False
theorem elect_Elect_Leader.RV_elim {R : Int → World → Prop} {v : Value} {w : World} (h : elect_Elect_Leader.RV R v w) : ∃ r, Ending.returned v = .returned (.int .i64 r) ∧ R r w := by
  unfold elect_Elect_Leader.RV at h
  split at h
  · exact ⟨_, rfl, h⟩
  · exact h.elim
/-- (*e2e/elect.Elect).Clock -/
def elect_Elect_Clock.Call (e_1 : Option Addr) (w : World) (R : Int → World → Prop) : Prop :=
  Calls Try.prog 60 #[.pointer e_1] w fun e w' => ∃ r, e = .returned (.int .i64 r) ∧ R r w'
theorem elect_Elect_Clock.Call.mono {e_1} {w : World} {R R' : Int → World → Prop} (h : elect_Elect_Clock.Call e_1 w R) (hr : ∀ r w', R r w' → R' r w') : elect_Elect_Clock.Call e_1 w R' :=
  Calls.mono h fun e w' he => by
    obtain ⟨r, h1, h2⟩ := he
    exact ⟨r, h1, hr r w' h2⟩
def elect_Elect_Clock.RV (R : Int → World → Prop) (v : Value) (w : World) : Prop := match v with
  | .int .i64 r => R r w
  | _ => False
theorem elect_Elect_Clock.RV_elim {R : Int → World → Prop} {v : Value} {w : World} (h : elect_Elect_Clock.RV R v w) : ∃ r, Ending.returned v = .returned (.int .i64 r) ∧ R r w := by
  unfold elect_Elect_Clock.RV at h
  split at h
  · exact ⟨_, rfl, h⟩
  · exact h.elim
/-- (*e2e/electm.Elect).Clock -/
def electm_Elect_Clock.Call (e_1 : Option Addr) (w : World) (R : Int → World → Prop) : Prop :=
  Calls Try.prog 61 #[.pointer e_1] w fun e w' => ∃ r, e = .returned (.int .i64 r) ∧ R r w'
theorem electm_Elect_Clock.Call.mono {e_1} {w : World} {R R' : Int → World → Prop} (h : electm_Elect_Clock.Call e_1 w R) (hr : ∀ r w', R r w' → R' r w') : electm_Elect_Clock.Call e_1 w R' :=
  Calls.mono h fun e w' he => by
    obtain ⟨r, h1, h2⟩ := he
    exact ⟨r, h1, hr r w' h2⟩
def electm_Elect_Clock.RV (R : Int → World → Prop) (v : Value) (w : World) : Prop := match v with
  | .int .i64 r => R r w
  | _ => False
theorem electm_Elect_Clock.RV_elim {R : Int → World → Prop} {v : Value} {w : World} (h : electm_Elect_Clock.RV R v w) : ∃ r, Ending.returned v = .returned (.int .i64 r) ∧ R r w := by
  unfold electm_Elect_Clock.RV at h
  split at h
  · exact ⟨_, rfl, h⟩
  · exact h.elim
/-- (*e2e/elect.Elect).Check -/
def elect_Elect_Check.Call (e_1 : Option Addr) (w : World) (R : ByteArray → World → Prop) : Prop :=
  Calls Try.prog 62 #[.pointer e_1] w fun e w' => ∃ r, e = .returned (.string r) ∧ R r w'
theorem elect_Elect_Check.Call.mono {e_1} {w : World} {R R' : ByteArray → World → Prop} (h : elect_Elect_Check.Call e_1 w R) (hr : ∀ r w', R r w' → R' r w') : elect_Elect_Check.Call e_1 w R' :=
  Calls.mono h fun e w' he => by
    obtain ⟨r, h1, h2⟩ := he
    exact ⟨r, h1, hr r w' h2⟩
def elect_Elect_Check.RV (R : ByteArray → World → Prop) (v : Value) (w : World) : Prop := match v with
  | .string r => R r w
  | _ => False
theorem elect_Elect_Check.RV_elim {R : ByteArray → World → Prop} {v : Value} {w : World} (h : elect_Elect_Check.RV R v w) : ∃ r, Ending.returned v = .returned (.string r) ∧ R r w := by
  unfold elect_Elect_Check.RV at h
  split at h
  · exact ⟨_, rfl, h⟩
  · exact h.elim
/-- e2e/elect.bit -/
def elect_bit.Call (p : Int) (w : World) (R : Int → World → Prop) : Prop :=
  Calls Try.prog 63 #[.int .i64 p] w fun e w' => ∃ r, e = .returned (.int .i64 r) ∧ R r w'
theorem elect_bit.Call.mono {p} {w : World} {R R' : Int → World → Prop} (h : elect_bit.Call p w R) (hr : ∀ r w', R r w' → R' r w') : elect_bit.Call p w R' :=
  Calls.mono h fun e w' he => by
    obtain ⟨r, h1, h2⟩ := he
    exact ⟨r, h1, hr r w' h2⟩
def elect_bit.RV (R : Int → World → Prop) (v : Value) (w : World) : Prop := match v with
  | .int .i64 r => R r w
  | _ => False
theorem elect_bit.RV_elim {R : Int → World → Prop} {v : Value} {w : World} (h : elect_bit.RV R v w) : ∃ r, Ending.returned v = .returned (.int .i64 r) ∧ R r w := by
  unfold elect_bit.RV at h
  split at h
  · exact ⟨_, rfl, h⟩
  · exact h.elim
/-- e2e/elect.turn -/
def elect_turn.Call (role ev : Int) (w : World) (R : Int → World → Prop) : Prop :=
  Calls Try.prog 64 #[.int .i64 role, .int .i64 ev] w fun e w' => ∃ r, e = .returned (.int .i64 r) ∧ R r w'
theorem elect_turn.Call.mono {role ev} {w : World} {R R' : Int → World → Prop} (h : elect_turn.Call role ev w R) (hr : ∀ r w', R r w' → R' r w') : elect_turn.Call role ev w R' :=
  Calls.mono h fun e w' he => by
    obtain ⟨r, h1, h2⟩ := he
    exact ⟨r, h1, hr r w' h2⟩
def elect_turn.RV (R : Int → World → Prop) (v : Value) (w : World) : Prop := match v with
  | .int .i64 r => R r w
  | _ => False
theorem elect_turn.RV_elim {R : Int → World → Prop} {v : Value} {w : World} (h : elect_turn.RV R v w) : ∃ r, Ending.returned v = .returned (.int .i64 r) ∧ R r w := by
  unfold elect_turn.RV at h
  split at h
  · exact ⟨_, rfl, h⟩
  · exact h.elim
/-- (*e2e/elect.Elect).peer -/
def elect_Elect_peer.Call (e_1 : Option Addr) (p : Int) (w : World) (R : Bool → World → Prop) : Prop :=
  Calls Try.prog 65 #[.pointer e_1, .int .i64 p] w fun e w' => ∃ r, e = .returned (.bool r) ∧ R r w'
theorem elect_Elect_peer.Call.mono {e_1 p} {w : World} {R R' : Bool → World → Prop} (h : elect_Elect_peer.Call e_1 p w R) (hr : ∀ r w', R r w' → R' r w') : elect_Elect_peer.Call e_1 p w R' :=
  Calls.mono h fun e w' he => by
    obtain ⟨r, h1, h2⟩ := he
    exact ⟨r, h1, hr r w' h2⟩
def elect_Elect_peer.RV (R : Bool → World → Prop) (v : Value) (w : World) : Prop := match v with
  | .bool r => R r w
  | _ => False
theorem elect_Elect_peer.RV_elim {R : Bool → World → Prop} {v : Value} {w : World} (h : elect_Elect_peer.RV R v w) : ∃ r, Ending.returned v = .returned (.bool r) ∧ R r w := by
  unfold elect_Elect_peer.RV at h
  split at h
  · exact ⟨_, rfl, h⟩
  · exact h.elim
/-- e2e/elect.count -/
def elect_count.Call (mask : Int) (w : World) (R : Int → World → Prop) : Prop :=
  Calls Try.prog 66 #[.int .i64 mask] w fun e w' => ∃ r, e = .returned (.int .i64 r) ∧ R r w'
theorem elect_count.Call.mono {mask} {w : World} {R R' : Int → World → Prop} (h : elect_count.Call mask w R) (hr : ∀ r w', R r w' → R' r w') : elect_count.Call mask w R' :=
  Calls.mono h fun e w' he => by
    obtain ⟨r, h1, h2⟩ := he
    exact ⟨r, h1, hr r w' h2⟩
def elect_count.RV (R : Int → World → Prop) (v : Value) (w : World) : Prop := match v with
  | .int .i64 r => R r w
  | _ => False
theorem elect_count.RV_elim {R : Int → World → Prop} {v : Value} {w : World} (h : elect_count.RV R v w) : ∃ r, Ending.returned v = .returned (.int .i64 r) ∧ R r w := by
  unfold elect_count.RV at h
  split at h
  · exact ⟨_, rfl, h⟩
  · exact h.elim
end Go.Proofs.Qxb6500428a
