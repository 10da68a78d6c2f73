import Derived.Test.Qxb6500423aProg
import Derived.Test.Qxb6500423aVcC
open Go.Vc
namespace Go.Proofs.Qxb6500423a
theorem Try.mixed : Try.prog.follows .mixedOrders = true := by kernel_rfl
abbrev T_int64 : TypeId := 2
abbrev T_int : TypeId := 3
abbrev T_bool : TypeId := 4
abbrev T_uint8 : TypeId := 5
abbrev T_string : TypeId := 9
abbrev T_uintptr : TypeId := 12
abbrev T_int32 : TypeId := 21
abbrev T_api_Frame : TypeId := 34
abbrev T_framelaw_World : TypeId := 37
abbrev T_api_Op : TypeId := 43
abbrev T_frame_Link : TypeId := 46
abbrev T_api_LinkStats : TypeId := 48
abbrev T_framem_Link : TypeId := 50
abbrev T_api_Errno : TypeId := 53
abbrev T_uint : TypeId := 69
abbrev T_frame_Sum : TypeId := 72
abbrev T_uint32 : TypeId := 85
/-- e2e/framelaw.Refines -/
def framelaw_Refines.Call (script_b : Option Addr) (script_l script_c : Nat) (w : World) (R : Bool → World → Prop) : Prop :=
  Calls Try.prog 3 #[.slice script_b script_l script_c] w fun e w' => ∃ r, e = .returned (.bool r) ∧ R r w'
theorem framelaw_Refines.Call.mono {script_b script_l script_c} {w : World} {R R' : Bool → World → Prop} (h : framelaw_Refines.Call script_b script_l script_c w R) (hr : ∀ r w', R r w' → R' r w') : framelaw_Refines.Call script_b script_l script_c w R' :=
  Calls.mono h fun e w' he => by
    obtain ⟨r, h1, h2⟩ := he
    exact ⟨r, h1, hr r w' h2⟩
def framelaw_Refines.RV (R : Bool → World → Prop) (v : Value) (w : World) : Prop := match v with
  | .bool r => R r w
  | _ => False
theorem framelaw_Refines.RV_elim {R : Bool → World → Prop} {v : Value} {w : World} (h : framelaw_Refines.RV R v w) : ∃ r, Ending.returned v = .returned (.bool r) ∧ R r w := by
  unfold framelaw_Refines.RV at h
  split at h
  · exact ⟨_, rfl, h⟩
  · exact h.elim
/-- e2e/framelaw.RefinesQuiet -/
def framelaw_RefinesQuiet.Call (script_b : Option Addr) (script_l script_c : Nat) (w : World) (R : Bool → World → Prop) : Prop :=
  Calls Try.prog 4 #[.slice script_b script_l script_c] w fun e w' => ∃ r, e = .returned (.bool r) ∧ R r w'
theorem framelaw_RefinesQuiet.Call.mono {script_b script_l script_c} {w : World} {R R' : Bool → World → Prop} (h : framelaw_RefinesQuiet.Call script_b script_l script_c w R) (hr : ∀ r w', R r w' → R' r w') : framelaw_RefinesQuiet.Call script_b script_l script_c w R' :=
  Calls.mono h fun e w' he => by
    obtain ⟨r, h1, h2⟩ := he
    exact ⟨r, h1, hr r w' h2⟩
def framelaw_RefinesQuiet.RV (R : Bool → World → Prop) (v : Value) (w : World) : Prop := match v with
  | .bool r => R r w
  | _ => False
theorem framelaw_RefinesQuiet.RV_elim {R : Bool → World → Prop} {v : Value} {w : World} (h : framelaw_RefinesQuiet.RV R v w) : ∃ r, Ending.returned v = .returned (.bool r) ∧ R r w := by
  unfold framelaw_RefinesQuiet.RV at h
  split at h
  · exact ⟨_, rfl, h⟩
  · exact h.elim
/-- e2e/framelaw.RefinesUpTo -/
def framelaw_RefinesUpTo.Call (script_b : Option Addr) (script_l script_c : Nat) (w : World) (R : Int → World → Prop) : Prop :=
  Calls Try.prog 5 #[.slice script_b script_l script_c] w fun e w' => ∃ r, e = .returned (.int .i64 r) ∧ R r w'
theorem framelaw_RefinesUpTo.Call.mono {script_b script_l script_c} {w : World} {R R' : Int → World → Prop} (h : framelaw_RefinesUpTo.Call script_b script_l script_c w R) (hr : ∀ r w', R r w' → R' r w') : framelaw_RefinesUpTo.Call script_b script_l script_c w R' :=
  Calls.mono h fun e w' he => by
    obtain ⟨r, h1, h2⟩ := he
    exact ⟨r, h1, hr r w' h2⟩
def framelaw_RefinesUpTo.RV (R : Int → World → Prop) (v : Value) (w : World) : Prop := match v with
  | .int .i64 r => R r w
  | _ => False
theorem framelaw_RefinesUpTo.RV_elim {R : Int → World → Prop} {v : Value} {w : World} (h : framelaw_RefinesUpTo.RV R v w) : ∃ r, Ending.returned v = .returned (.int .i64 r) ∧ R r w := by
  unfold framelaw_RefinesUpTo.RV at h
  split at h
  · exact ⟨_, rfl, h⟩
  · exact h.elim
/-- e2e/framelaw.walk -/
def framelaw_walk.Call (script_b : Option Addr) (script_l script_c : Nat) (quiet : Bool) (w : World) (R : Int → Int → World → Prop) : Prop :=
  Calls Try.prog 6 #[.slice script_b script_l script_c, .bool quiet] w fun e w' => ∃ r0 r1, e = .returned (.tuple #[.int .i64 r0, .int .i64 r1]) ∧ R r0 r1 w'
theorem framelaw_walk.Call.mono {script_b script_l script_c quiet} {w : World} {R R' : Int → Int → World → Prop} (h : framelaw_walk.Call script_b script_l script_c quiet w R) (hr : ∀ r0 r1 w', R r0 r1 w' → R' r0 r1 w') : framelaw_walk.Call script_b script_l script_c quiet w R' :=
  Calls.mono h fun e w' he => by
    obtain ⟨r0, r1, h1, h2⟩ := he
    exact ⟨r0, r1, h1, hr r0 r1 w' h2⟩
def framelaw_walk.RV (R : Int → Int → World → Prop) (v : Value) (w : World) : Prop := match v with
  | .tuple ⟨[.int .i64 r0, .int .i64 r1]⟩ => R r0 r1 w
  | _ => False
theorem framelaw_walk.RV_elim {R : Int → Int → World → Prop} {v : Value} {w : World} (h : framelaw_walk.RV R v w) : ∃ r0 r1, Ending.returned v = .returned (.tuple #[.int .i64 r0, .int .i64 r1]) ∧ R r0 r1 w := by
  unfold framelaw_walk.RV at h
  split at h
  · exact ⟨_, _, rfl, h⟩
  · exact h.elim
/-- e2e/frame.New -/
def frame_New.Call (addr : Int) (w : World) (R : Option Addr → World → Prop) : Prop :=
  Calls Try.prog 7 #[.int .i64 addr] w fun e w' => ∃ r, e = .returned (.pointer r) ∧ R r w'
theorem frame_New.Call.mono {addr} {w : World} {R R' : Option Addr → World → Prop} (h : frame_New.Call addr w R) (hr : ∀ r w', R r w' → R' r w') : frame_New.Call addr w R' :=
  Calls.mono h fun e w' he => by
    obtain ⟨r, h1, h2⟩ := he
    exact ⟨r, h1, hr r w' h2⟩
def frame_New.RV (R : Option Addr → World → Prop) (v : Value) (w : World) : Prop := match v with
  | .pointer r => R r w
  | _ => False
theorem frame_New.RV_elim {R : Option Addr → World → Prop} {v : Value} {w : World} (h : frame_New.RV R v w) : ∃ r, Ending.returned v = .returned (.pointer r) ∧ R r w := by
  unfold frame_New.RV at h
  split at h
  · exact ⟨_, rfl, h⟩
  · exact h.elim
/-- e2e/framem.New -/
def framem_New.Call (addr : Int) (w : World) (R : Option Addr → World → Prop) : Prop :=
  Calls Try.prog 8 #[.int .i64 addr] w fun e w' => ∃ r, e = .returned (.pointer r) ∧ R r w'
theorem framem_New.Call.mono {addr} {w : World} {R R' : Option Addr → World → Prop} (h : framem_New.Call addr w R) (hr : ∀ r w', R r w' → R' r w') : framem_New.Call addr w R' :=
  Calls.mono h fun e w' he => by
    obtain ⟨r, h1, h2⟩ := he
    exact ⟨r, h1, hr r w' h2⟩
def framem_New.RV (R : Option Addr → World → Prop) (v : Value) (w : World) : Prop := match v with
  | .pointer r => R r w
  | _ => False
theorem framem_New.RV_elim {R : Option Addr → World → Prop} {v : Value} {w : World} (h : framem_New.RV R v w) : ∃ r, Ending.returned v = .returned (.pointer r) ∧ R r w := by
  unfold framem_New.RV at h
  split at h
  · exact ⟨_, rfl, h⟩
  · exact h.elim
/-- e2e/framelaw.AllAlike -/
def framelaw_AllAlike.Call (w0 : Option Addr) (w : World) (R : Bool → World → Prop) : Prop :=
  Calls Try.prog 9 #[.pointer w0] w fun e w' => ∃ r, e = .returned (.bool r) ∧ R r w'
theorem framelaw_AllAlike.Call.mono {w0} {w : World} {R R' : Bool → World → Prop} (h : framelaw_AllAlike.Call w0 w R) (hr : ∀ r w', R r w' → R' r w') : framelaw_AllAlike.Call w0 w R' :=
  Calls.mono h fun e w' he => by
    obtain ⟨r, h1, h2⟩ := he
    exact ⟨r, h1, hr r w' h2⟩
def framelaw_AllAlike.RV (R : Bool → World → Prop) (v : Value) (w : World) : Prop := match v with
  | .bool r => R r w
  | _ => False
theorem framelaw_AllAlike.RV_elim {R : Bool → World → Prop} {v : Value} {w : World} (h : framelaw_AllAlike.RV R v w) : ∃ r, Ending.returned v = .returned (.bool r) ∧ R r w := by
  unfold framelaw_AllAlike.RV at h
  split at h
  · exact ⟨_, rfl, h⟩
  · exact h.elim
/-- e2e/framelaw.Play -/
def framelaw_Play.Call (w0 : Option Addr) (o_0 o_1 o_2 o_3 : Int) (o_4 o_5 : ByteArray) (w : World) (R : Bool → World → Prop) : Prop :=
  Calls Try.prog 10 #[.pointer w0, .agg #[.int .i64 o_0, .int .i64 o_1, .int .i64 o_2, .int .i64 o_3, .string o_4, .string o_5]] w fun e w' => ∃ r, e = .returned (.bool r) ∧ R r w'
theorem framelaw_Play.Call.mono {w0 o_0 o_1 o_2 o_3 o_4 o_5} {w : World} {R R' : Bool → World → Prop} (h : framelaw_Play.Call w0 o_0 o_1 o_2 o_3 o_4 o_5 w R) (hr : ∀ r w', R r w' → R' r w') : framelaw_Play.Call w0 o_0 o_1 o_2 o_3 o_4 o_5 w R' :=
  Calls.mono h fun e w' he => by
    obtain ⟨r, h1, h2⟩ := he
    exact ⟨r, h1, hr r w' h2⟩
def framelaw_Play.RV (R : Bool → World → Prop) (v : Value) (w : World) : Prop := match v with
  | .bool r => R r w
  | _ => False
theorem framelaw_Play.RV_elim {R : Bool → World → Prop} {v : Value} {w : World} (h : framelaw_Play.RV R v w) : ∃ r, Ending.returned v = .returned (.bool r) ∧ R r w := by
  unfold framelaw_Play.RV at h
  split at h
  · exact ⟨_, rfl, h⟩
  · exact h.elim
/-- e2e/framelaw.Untouched -/
def framelaw_Untouched.Call (w0 : Option Addr) (w : World) (R : Bool → World → Prop) : Prop :=
  Calls Try.prog 11 #[.pointer w0] w fun e w' => ∃ r, e = .returned (.bool r) ∧ R r w'
theorem framelaw_Untouched.Call.mono {w0} {w : World} {R R' : Bool → World → Prop} (h : framelaw_Untouched.Call w0 w R) (hr : ∀ r w', R r w' → R' r w') : framelaw_Untouched.Call w0 w R' :=
  Calls.mono h fun e w' he => by
    obtain ⟨r, h1, h2⟩ := he
    exact ⟨r, h1, hr r w' h2⟩
def framelaw_Untouched.RV (R : Bool → World → Prop) (v : Value) (w : World) : Prop := match v with
  | .bool r => R r w
  | _ => False
theorem framelaw_Untouched.RV_elim {R : Bool → World → Prop} {v : Value} {w : World} (h : framelaw_Untouched.RV R v w) : ∃ r, Ending.returned v = .returned (.bool r) ∧ R r w := by
  unfold framelaw_Untouched.RV at h
  split at h
  · exact ⟨_, rfl, h⟩
  · exact h.elim
/-- e2e/framelaw.Alike -/
def framelaw_Alike.Call (x m0 : Option Addr) (w : World) (R : Bool → World → Prop) : Prop :=
  Calls Try.prog 12 #[.pointer x, .pointer m0] w fun e w' => ∃ r, e = .returned (.bool r) ∧ R r w'
theorem framelaw_Alike.Call.mono {x m0} {w : World} {R R' : Bool → World → Prop} (h : framelaw_Alike.Call x m0 w R) (hr : ∀ r w', R r w' → R' r w') : framelaw_Alike.Call x m0 w R' :=
  Calls.mono h fun e w' he => by
    obtain ⟨r, h1, h2⟩ := he
    exact ⟨r, h1, hr r w' h2⟩
def framelaw_Alike.RV (R : Bool → World → Prop) (v : Value) (w : World) : Prop := match v with
  | .bool r => R r w
  | _ => False
theorem framelaw_Alike.RV_elim {R : Bool → World → Prop} {v : Value} {w : World} (h : framelaw_Alike.RV R v w) : ∃ r, Ending.returned v = .returned (.bool r) ∧ R r w := by
  unfold framelaw_Alike.RV at h
  split at h
  · exact ⟨_, rfl, h⟩
  · exact h.elim
/-- e2e/framelaw.Encode -/
def framelaw_Encode.Call (w0 : Option Addr) (c dst typ : Int) (payload : ByteArray) (w : World) (R : Bool → World → Prop) : Prop :=
  Calls Try.prog 13 #[.pointer w0, .int .i64 c, .int .i64 dst, .int .i64 typ, .string payload] w fun e w' => ∃ r, e = .returned (.bool r) ∧ R r w'
theorem framelaw_Encode.Call.mono {w0 c dst typ payload} {w : World} {R R' : Bool → World → Prop} (h : framelaw_Encode.Call w0 c dst typ payload w R) (hr : ∀ r w', R r w' → R' r w') : framelaw_Encode.Call w0 c dst typ payload w R' :=
  Calls.mono h fun e w' he => by
    obtain ⟨r, h1, h2⟩ := he
    exact ⟨r, h1, hr r w' h2⟩
def framelaw_Encode.RV (R : Bool → World → Prop) (v : Value) (w : World) : Prop := match v with
  | .bool r => R r w
  | _ => False
theorem framelaw_Encode.RV_elim {R : Bool → World → Prop} {v : Value} {w : World} (h : framelaw_Encode.RV R v w) : ∃ r, Ending.returned v = .returned (.bool r) ∧ R r w := by
  unfold framelaw_Encode.RV at h
  split at h
  · exact ⟨_, rfl, h⟩
  · exact h.elim
/-- e2e/framelaw.Decode -/
def framelaw_Decode.Call (w0 : Option Addr) (c : Int) (raw_b : Option Addr) (raw_l raw_c : Nat) (w : World) (R : Bool → Int → Int → Int → Option Addr → Nat → Nat → Int → World → Prop) : Prop :=
  Calls Try.prog 14 #[.pointer w0, .int .i64 c, .slice raw_b raw_l raw_c] w fun e w' => ∃ r0 r1_0 r1_1 r1_2 r1_3_b r1_3_l r1_3_c r2, e = .returned (.tuple #[.bool r0, .agg #[.int .i64 r1_0, .int .i64 r1_1, .int .i64 r1_2, .slice r1_3_b r1_3_l r1_3_c], .int .i64 r2]) ∧ R r0 r1_0 r1_1 r1_2 r1_3_b r1_3_l r1_3_c r2 w'
theorem framelaw_Decode.Call.mono {w0 c raw_b raw_l raw_c} {w : World} {R R' : Bool → Int → Int → Int → Option Addr → Nat → Nat → Int → World → Prop} (h : framelaw_Decode.Call w0 c raw_b raw_l raw_c w R) (hr : ∀ r0 r1_0 r1_1 r1_2 r1_3_b r1_3_l r1_3_c r2 w', R r0 r1_0 r1_1 r1_2 r1_3_b r1_3_l r1_3_c r2 w' → R' r0 r1_0 r1_1 r1_2 r1_3_b r1_3_l r1_3_c r2 w') : framelaw_Decode.Call w0 c raw_b raw_l raw_c w R' :=
  Calls.mono h fun e w' he => by
    obtain ⟨r0, r1_0, r1_1, r1_2, r1_3_b, r1_3_l, r1_3_c, r2, h1, h2⟩ := he
    exact ⟨r0, r1_0, r1_1, r1_2, r1_3_b, r1_3_l, r1_3_c, r2, h1, hr r0 r1_0 r1_1 r1_2 r1_3_b r1_3_l r1_3_c r2 w' h2⟩
def framelaw_Decode.RV (R : Bool → Int → Int → Int → Option Addr → Nat → Nat → Int → World → Prop) (v : Value) (w : World) : Prop := match v with
  | .tuple ⟨[.bool r0, .agg ⟨[.int .i64 r1_0, .int .i64 r1_1, .int .i64 r1_2, .slice r1_3_b r1_3_l r1_3_c]⟩, .int .i64 r2]⟩ => R r0 r1_0 r1_1 r1_2 r1_3_b r1_3_l r1_3_c r2 w
  | _ => False
theorem framelaw_Decode.RV_elim {R : Bool → Int → Int → Int → Option Addr → Nat → Nat → Int → World → Prop} {v : Value} {w : World} (h : framelaw_Decode.RV R v w) : ∃ r0 r1_0 r1_1 r1_2 r1_3_b r1_3_l r1_3_c r2, Ending.returned v = .returned (.tuple #[.bool r0, .agg #[.int .i64 r1_0, .int .i64 r1_1, .int .i64 r1_2, .slice r1_3_b r1_3_l r1_3_c], .int .i64 r2]) ∧ R r0 r1_0 r1_1 r1_2 r1_3_b r1_3_l r1_3_c r2 w := by
  unfold framelaw_Decode.RV at h
  split at h
  · exact ⟨_, _, _, _, _, _, _, _, rfl, h⟩
  · exact h.elim
/-- e2e/framelaw.Round -/
def framelaw_Round.Call (w0 : Option Addr) (c : Int) (w : World) (R : Bool → World → Prop) : Prop :=
  Calls Try.prog 15 #[.pointer w0, .int .i64 c] w fun e w' => ∃ r, e = .returned (.bool r) ∧ R r w'
theorem framelaw_Round.Call.mono {w0 c} {w : World} {R R' : Bool → World → Prop} (h : framelaw_Round.Call w0 c w R) (hr : ∀ r w', R r w' → R' r w') : framelaw_Round.Call w0 c w R' :=
  Calls.mono h fun e w' he => by
    obtain ⟨r, h1, h2⟩ := he
    exact ⟨r, h1, hr r w' h2⟩
def framelaw_Round.RV (R : Bool → World → Prop) (v : Value) (w : World) : Prop := match v with
  | .bool r => R r w
  | _ => False
theorem framelaw_Round.RV_elim {R : Bool → World → Prop} {v : Value} {w : World} (h : framelaw_Round.RV R v w) : ∃ r, Ending.returned v = .returned (.bool r) ∧ R r w := by
  unfold framelaw_Round.RV at h
  split at h
  · exact ⟨_, rfl, h⟩
  · exact h.elim
/-- e2e/framelaw.Flip -/
def framelaw_Flip.Call (w0 : Option Addr) (c k : Int) (w : World) (R : Bool → World → Prop) : Prop :=
  Calls Try.prog 16 #[.pointer w0, .int .i64 c, .int .i64 k] w fun e w' => ∃ r, e = .returned (.bool r) ∧ R r w'
theorem framelaw_Flip.Call.mono {w0 c k} {w : World} {R R' : Bool → World → Prop} (h : framelaw_Flip.Call w0 c k w R) (hr : ∀ r w', R r w' → R' r w') : framelaw_Flip.Call w0 c k w R' :=
  Calls.mono h fun e w' he => by
    obtain ⟨r, h1, h2⟩ := he
    exact ⟨r, h1, hr r w' h2⟩
def framelaw_Flip.RV (R : Bool → World → Prop) (v : Value) (w : World) : Prop := match v with
  | .bool r => R r w
  | _ => False
theorem framelaw_Flip.RV_elim {R : Bool → World → Prop} {v : Value} {w : World} (h : framelaw_Flip.RV R v w) : ∃ r, Ending.returned v = .returned (.bool r) ∧ R r w := by
  unfold framelaw_Flip.RV at h
  split at h
  · exact ⟨_, rfl, h⟩
  · exact h.elim
/-- e2e/framelaw.SameAddr -/
def framelaw_SameAddr.Call (x m0 : Option Addr) (w : World) (R : Bool → World → Prop) : Prop :=
  Calls Try.prog 17 #[.pointer x, .pointer m0] w fun e w' => ∃ r, e = .returned (.bool r) ∧ R r w'
theorem framelaw_SameAddr.Call.mono {x m0} {w : World} {R R' : Bool → World → Prop} (h : framelaw_SameAddr.Call x m0 w R) (hr : ∀ r w', R r w' → R' r w') : framelaw_SameAddr.Call x m0 w R' :=
  Calls.mono h fun e w' he => by
    obtain ⟨r, h1, h2⟩ := he
    exact ⟨r, h1, hr r w' h2⟩
def framelaw_SameAddr.RV (R : Bool → World → Prop) (v : Value) (w : World) : Prop := match v with
  | .bool r => R r w
  | _ => False
theorem framelaw_SameAddr.RV_elim {R : Bool → World → Prop} {v : Value} {w : World} (h : framelaw_SameAddr.RV R v w) : ∃ r, Ending.returned v = .returned (.bool r) ∧ R r w := by
  unfold framelaw_SameAddr.RV at h
  split at h
  · exact ⟨_, rfl, h⟩
  · exact h.elim
/-- e2e/framelaw.SameStats -/
def framelaw_SameStats.Call (x m0 : Option Addr) (w : World) (R : Bool → World → Prop) : Prop :=
  Calls Try.prog 18 #[.pointer x, .pointer m0] w fun e w' => ∃ r, e = .returned (.bool r) ∧ R r w'
theorem framelaw_SameStats.Call.mono {x m0} {w : World} {R R' : Bool → World → Prop} (h : framelaw_SameStats.Call x m0 w R) (hr : ∀ r w', R r w' → R' r w') : framelaw_SameStats.Call x m0 w R' :=
  Calls.mono h fun e w' he => by
    obtain ⟨r, h1, h2⟩ := he
    exact ⟨r, h1, hr r w' h2⟩
def framelaw_SameStats.RV (R : Bool → World → Prop) (v : Value) (w : World) : Prop := match v with
  | .bool r => R r w
  | _ => False
theorem framelaw_SameStats.RV_elim {R : Bool → World → Prop} {v : Value} {w : World} (h : framelaw_SameStats.RV R v w) : ∃ r, Ending.returned v = .returned (.bool r) ∧ R r w := by
  unfold framelaw_SameStats.RV at h
  split at h
  · exact ⟨_, rfl, h⟩
  · exact h.elim
/-- (*e2e/frame.Link).Check -/
def frame_Link_Check.Call (l : Option Addr) (w : World) (R : Bool → World → Prop) : Prop :=
  Calls Try.prog 19 #[.pointer l] w fun e w' => ∃ r, e = .returned (.bool r) ∧ R r w'
theorem frame_Link_Check.Call.mono {l} {w : World} {R R' : Bool → World → Prop} (h : frame_Link_Check.Call l w R) (hr : ∀ r w', R r w' → R' r w') : frame_Link_Check.Call l w R' :=
  Calls.mono h fun e w' he => by
    obtain ⟨r, h1, h2⟩ := he
    exact ⟨r, h1, hr r w' h2⟩
def frame_Link_Check.RV (R : Bool → World → Prop) (v : Value) (w : World) : Prop := match v with
  | .bool r => R r w
  | _ => False
theorem frame_Link_Check.RV_elim {R : Bool → World → Prop} {v : Value} {w : World} (h : frame_Link_Check.RV R v w) : ∃ r, Ending.returned v = .returned (.bool r) ∧ R r w := by
  unfold frame_Link_Check.RV at h
  split at h
  · exact ⟨_, rfl, h⟩
  · exact h.elim
/-- e2e/api.SameBytes -/
def api_SameBytes.Call (a_b : Option Addr) (a_l a_c : Nat) (b_b : Option Addr) (b_l b_c : Nat) (w : World) (R : Bool → World → Prop) : Prop :=
  Calls Try.prog 20 #[.slice a_b a_l a_c, .slice b_b b_l b_c] w fun e w' => ∃ r, e = .returned (.bool r) ∧ R r w'
theorem api_SameBytes.Call.mono {a_b a_l a_c b_b b_l b_c} {w : World} {R R' : Bool → World → Prop} (h : api_SameBytes.Call a_b a_l a_c b_b b_l b_c w R) (hr : ∀ r w', R r w' → R' r w') : api_SameBytes.Call a_b a_l a_c b_b b_l b_c w R' :=
  Calls.mono h fun e w' he => by
    obtain ⟨r, h1, h2⟩ := he
    exact ⟨r, h1, hr r w' h2⟩
def api_SameBytes.RV (R : Bool → World → Prop) (v : Value) (w : World) : Prop := match v with
  | .bool r => R r w
  | _ => False
theorem api_SameBytes.RV_elim {R : Bool → World → Prop} {v : Value} {w : World} (h : api_SameBytes.RV R v w) : ∃ r, Ending.returned v = .returned (.bool r) ∧ R r w := by
  unfold api_SameBytes.RV at h
  split at h
  · exact ⟨_, rfl, h⟩
  · exact h.elim
/-- (*e2e/frame.Link).Encode -/
def frame_Link_Encode.Call (l : Option Addr) (dst typ : Int) (payload_b : Option Addr) (payload_l payload_c : Nat) (w : World) (R : Option Addr → Nat → Nat → Int → World → Prop) : Prop :=
  Calls Try.prog 21 #[.pointer l, .int .i64 dst, .int .i64 typ, .slice payload_b payload_l payload_c] w fun e w' => ∃ r0_b r0_l r0_c r1, e = .returned (.tuple #[.slice r0_b r0_l r0_c, .int .i64 r1]) ∧ R r0_b r0_l r0_c r1 w'
theorem frame_Link_Encode.Call.mono {l dst typ payload_b payload_l payload_c} {w : World} {R R' : Option Addr → Nat → Nat → Int → World → Prop} (h : frame_Link_Encode.Call l dst typ payload_b payload_l payload_c w R) (hr : ∀ r0_b r0_l r0_c r1 w', R r0_b r0_l r0_c r1 w' → R' r0_b r0_l r0_c r1 w') : frame_Link_Encode.Call l dst typ payload_b payload_l payload_c w R' :=
  Calls.mono h fun e w' he => by
    obtain ⟨r0_b, r0_l, r0_c, r1, h1, h2⟩ := he
    exact ⟨r0_b, r0_l, r0_c, r1, h1, hr r0_b r0_l r0_c r1 w' h2⟩
def frame_Link_Encode.RV (R : Option Addr → Nat → Nat → Int → World → Prop) (v : Value) (w : World) : Prop := match v with
  | .tuple ⟨[.slice r0_b r0_l r0_c, .int .i64 r1]⟩ => R r0_b r0_l r0_c r1 w
  | _ => False
theorem frame_Link_Encode.RV_elim {R : Option Addr → Nat → Nat → Int → World → Prop} {v : Value} {w : World} (h : frame_Link_Encode.RV R v w) : ∃ r0_b r0_l r0_c r1, Ending.returned v = .returned (.tuple #[.slice r0_b r0_l r0_c, .int .i64 r1]) ∧ R r0_b r0_l r0_c r1 w := by
  unfold frame_Link_Encode.RV at h
  split at h
  · exact ⟨_, _, _, _, rfl, h⟩
  · exact h.elim
/-- e2e/framelaw.Spoil -/
def framelaw_Spoil.Call (b_b : Option Addr) (b_l b_c : Nat) (w : World) (R : World → Prop) : Prop :=
  Calls Try.prog 22 #[.slice b_b b_l b_c] w fun e w' => e = .returned (.tuple #[]) ∧ R w'
theorem framelaw_Spoil.Call.mono {b_b b_l b_c} {w : World} {R R' : World → Prop} (h : framelaw_Spoil.Call b_b b_l b_c w R) (hr : ∀ w', R w' → R'  w') : framelaw_Spoil.Call b_b b_l b_c w R' :=
  Calls.mono h fun e w' he => by
    obtain ⟨h1, h2⟩ := he
    exact ⟨h1, hr  w' h2⟩
def framelaw_Spoil.RV (R : World → Prop) (v : Value) (w : World) : Prop := match v with
  | .tuple ⟨[]⟩ => R w
  | _ => False
theorem framelaw_Spoil.RV_elim {R : World → Prop} {v : Value} {w : World} (h : framelaw_Spoil.RV R v w) : Ending.returned v = .returned (.tuple #[]) ∧ R w := by
  unfold framelaw_Spoil.RV at h
  split at h
  · exact ⟨rfl, h⟩
  · exact h.elim
/-- (*e2e/framem.Link).Encode -/
def framem_Link_Encode.Call (l : Option Addr) (dst typ : Int) (payload_b : Option Addr) (payload_l payload_c : Nat) (w : World) (R : Option Addr → Nat → Nat → Int → World → Prop) : Prop :=
  Calls Try.prog 23 #[.pointer l, .int .i64 dst, .int .i64 typ, .slice payload_b payload_l payload_c] w fun e w' => ∃ r0_b r0_l r0_c r1, e = .returned (.tuple #[.slice r0_b r0_l r0_c, .int .i64 r1]) ∧ R r0_b r0_l r0_c r1 w'
theorem framem_Link_Encode.Call.mono {l dst typ payload_b payload_l payload_c} {w : World} {R R' : Option Addr → Nat → Nat → Int → World → Prop} (h : framem_Link_Encode.Call l dst typ payload_b payload_l payload_c w R) (hr : ∀ r0_b r0_l r0_c r1 w', R r0_b r0_l r0_c r1 w' → R' r0_b r0_l r0_c r1 w') : framem_Link_Encode.Call l dst typ payload_b payload_l payload_c w R' :=
  Calls.mono h fun e w' he => by
    obtain ⟨r0_b, r0_l, r0_c, r1, h1, h2⟩ := he
    exact ⟨r0_b, r0_l, r0_c, r1, h1, hr r0_b r0_l r0_c r1 w' h2⟩
def framem_Link_Encode.RV (R : Option Addr → Nat → Nat → Int → World → Prop) (v : Value) (w : World) : Prop := match v with
  | .tuple ⟨[.slice r0_b r0_l r0_c, .int .i64 r1]⟩ => R r0_b r0_l r0_c r1 w
  | _ => False
theorem framem_Link_Encode.RV_elim {R : Option Addr → Nat → Nat → Int → World → Prop} {v : Value} {w : World} (h : framem_Link_Encode.RV R v w) : ∃ r0_b r0_l r0_c r1, Ending.returned v = .returned (.tuple #[.slice r0_b r0_l r0_c, .int .i64 r1]) ∧ R r0_b r0_l r0_c r1 w := by
  unfold framem_Link_Encode.RV at h
  split at h
  · exact ⟨_, _, _, _, rfl, h⟩
  · exact h.elim
/-- (*e2e/framem.Link).Addr -/
def framem_Link_Addr.Call (l : Option Addr) (w : World) (R : Int → World → Prop) : Prop :=
  Calls Try.prog 24 #[.pointer l] w fun e w' => ∃ r, e = .returned (.int .i64 r) ∧ R r w'
theorem framem_Link_Addr.Call.mono {l} {w : World} {R R' : Int → World → Prop} (h : framem_Link_Addr.Call l w R) (hr : ∀ r w', R r w' → R' r w') : framem_Link_Addr.Call l w R' :=
  Calls.mono h fun e w' he => by
    obtain ⟨r, h1, h2⟩ := he
    exact ⟨r, h1, hr r w' h2⟩
def framem_Link_Addr.RV (R : Int → World → Prop) (v : Value) (w : World) : Prop := match v with
  | .int .i64 r => R r w
  | _ => False
theorem framem_Link_Addr.RV_elim {R : Int → World → Prop} {v : Value} {w : World} (h : framem_Link_Addr.RV R v w) : ∃ r, Ending.returned v = .returned (.int .i64 r) ∧ R r w := by
  unfold framem_Link_Addr.RV at h
  split at h
  · exact ⟨_, rfl, h⟩
  · exact h.elim
/-- e2e/api.CopyBytes -/
def api_CopyBytes.Call (b_b : Option Addr) (b_l b_c : Nat) (w : World) (R : Option Addr → Nat → Nat → World → Prop) : Prop :=
  Calls Try.prog 25 #[.slice b_b b_l b_c] w fun e w' => ∃ r_b r_l r_c, e = .returned (.slice r_b r_l r_c) ∧ R r_b r_l r_c w'
theorem api_CopyBytes.Call.mono {b_b b_l b_c} {w : World} {R R' : Option Addr → Nat → Nat → World → Prop} (h : api_CopyBytes.Call b_b b_l b_c w R) (hr : ∀ r_b r_l r_c w', R r_b r_l r_c w' → R' r_b r_l r_c w') : api_CopyBytes.Call b_b b_l b_c w R' :=
  Calls.mono h fun e w' he => by
    obtain ⟨r_b, r_l, r_c, h1, h2⟩ := he
    exact ⟨r_b, r_l, r_c, h1, hr r_b r_l r_c w' h2⟩
def api_CopyBytes.RV (R : Option Addr → Nat → Nat → World → Prop) (v : Value) (w : World) : Prop := match v with
  | .slice r_b r_l r_c => R r_b r_l r_c w
  | _ => False
theorem api_CopyBytes.RV_elim {R : Option Addr → Nat → Nat → World → Prop} {v : Value} {w : World} (h : api_CopyBytes.RV R v w) : ∃ r_b r_l r_c, Ending.returned v = .returned (.slice r_b r_l r_c) ∧ R r_b r_l r_c w := by
  unfold api_CopyBytes.RV at h
  split at h
  · exact ⟨_, _, _, rfl, h⟩
  · exact h.elim
/-- e2e/framelaw.Keep -/
def framelaw_Keep.Call (w0 b_b : Option Addr) (b_l b_c : Nat) (w : World) (R : World → Prop) : Prop :=
  Calls Try.prog 26 #[.pointer w0, .slice b_b b_l b_c] w fun e w' => e = .returned (.tuple #[]) ∧ R w'
theorem framelaw_Keep.Call.mono {w0 b_b b_l b_c} {w : World} {R R' : World → Prop} (h : framelaw_Keep.Call w0 b_b b_l b_c w R) (hr : ∀ w', R w' → R'  w') : framelaw_Keep.Call w0 b_b b_l b_c w R' :=
  Calls.mono h fun e w' he => by
    obtain ⟨h1, h2⟩ := he
    exact ⟨h1, hr  w' h2⟩
def framelaw_Keep.RV (R : World → Prop) (v : Value) (w : World) : Prop := match v with
  | .tuple ⟨[]⟩ => R w
  | _ => False
theorem framelaw_Keep.RV_elim {R : World → Prop} {v : Value} {w : World} (h : framelaw_Keep.RV R v w) : Ending.returned v = .returned (.tuple #[]) ∧ R w := by
  unfold framelaw_Keep.RV at h
  split at h
  · exact ⟨rfl, h⟩
  · exact h.elim
/-- (*e2e/frame.Link).Decode -/
def frame_Link_Decode.Call (l raw_b : Option Addr) (raw_l raw_c : Nat) (w : World) (R : Int → Int → Int → Option Addr → Nat → Nat → Int → World → Prop) : Prop :=
  Calls Try.prog 27 #[.pointer l, .slice raw_b raw_l raw_c] w fun e w' => ∃ r0_0 r0_1 r0_2 r0_3_b r0_3_l r0_3_c r1, e = .returned (.tuple #[.agg #[.int .i64 r0_0, .int .i64 r0_1, .int .i64 r0_2, .slice r0_3_b r0_3_l r0_3_c], .int .i64 r1]) ∧ R r0_0 r0_1 r0_2 r0_3_b r0_3_l r0_3_c r1 w'
theorem frame_Link_Decode.Call.mono {l raw_b raw_l raw_c} {w : World} {R R' : Int → Int → Int → Option Addr → Nat → Nat → Int → World → Prop} (h : frame_Link_Decode.Call l raw_b raw_l raw_c w R) (hr : ∀ r0_0 r0_1 r0_2 r0_3_b r0_3_l r0_3_c r1 w', R r0_0 r0_1 r0_2 r0_3_b r0_3_l r0_3_c r1 w' → R' r0_0 r0_1 r0_2 r0_3_b r0_3_l r0_3_c r1 w') : frame_Link_Decode.Call l raw_b raw_l raw_c w R' :=
  Calls.mono h fun e w' he => by
    obtain ⟨r0_0, r0_1, r0_2, r0_3_b, r0_3_l, r0_3_c, r1, h1, h2⟩ := he
    exact ⟨r0_0, r0_1, r0_2, r0_3_b, r0_3_l, r0_3_c, r1, h1, hr r0_0 r0_1 r0_2 r0_3_b r0_3_l r0_3_c r1 w' h2⟩
def frame_Link_Decode.RV (R : Int → Int → Int → Option Addr → Nat → Nat → Int → World → Prop) (v : Value) (w : World) : Prop := match v with
  | .tuple ⟨[.agg ⟨[.int .i64 r0_0, .int .i64 r0_1, .int .i64 r0_2, .slice r0_3_b r0_3_l r0_3_c]⟩, .int .i64 r1]⟩ => R r0_0 r0_1 r0_2 r0_3_b r0_3_l r0_3_c r1 w
  | _ => False
theorem frame_Link_Decode.RV_elim {R : Int → Int → Int → Option Addr → Nat → Nat → Int → World → Prop} {v : Value} {w : World} (h : frame_Link_Decode.RV R v w) : ∃ r0_0 r0_1 r0_2 r0_3_b r0_3_l r0_3_c r1, Ending.returned v = .returned (.tuple #[.agg #[.int .i64 r0_0, .int .i64 r0_1, .int .i64 r0_2, .slice r0_3_b r0_3_l r0_3_c], .int .i64 r1]) ∧ R r0_0 r0_1 r0_2 r0_3_b r0_3_l r0_3_c r1 w := by
  unfold frame_Link_Decode.RV at h
  split at h
  · exact ⟨_, _, _, _, _, _, _, rfl, h⟩
  · exact h.elim
/-- (*e2e/framem.Link).Decode -/
def framem_Link_Decode.Call (l raw_b : Option Addr) (raw_l raw_c : Nat) (w : World) (R : Int → Int → Int → Option Addr → Nat → Nat → Int → World → Prop) : Prop :=
  Calls Try.prog 28 #[.pointer l, .slice raw_b raw_l raw_c] w fun e w' => ∃ r0_0 r0_1 r0_2 r0_3_b r0_3_l r0_3_c r1, e = .returned (.tuple #[.agg #[.int .i64 r0_0, .int .i64 r0_1, .int .i64 r0_2, .slice r0_3_b r0_3_l r0_3_c], .int .i64 r1]) ∧ R r0_0 r0_1 r0_2 r0_3_b r0_3_l r0_3_c r1 w'
theorem framem_Link_Decode.Call.mono {l raw_b raw_l raw_c} {w : World} {R R' : Int → Int → Int → Option Addr → Nat → Nat → Int → World → Prop} (h : framem_Link_Decode.Call l raw_b raw_l raw_c w R) (hr : ∀ r0_0 r0_1 r0_2 r0_3_b r0_3_l r0_3_c r1 w', R r0_0 r0_1 r0_2 r0_3_b r0_3_l r0_3_c r1 w' → R' r0_0 r0_1 r0_2 r0_3_b r0_3_l r0_3_c r1 w') : framem_Link_Decode.Call l raw_b raw_l raw_c w R' :=
  Calls.mono h fun e w' he => by
    obtain ⟨r0_0, r0_1, r0_2, r0_3_b, r0_3_l, r0_3_c, r1, h1, h2⟩ := he
    exact ⟨r0_0, r0_1, r0_2, r0_3_b, r0_3_l, r0_3_c, r1, h1, hr r0_0 r0_1 r0_2 r0_3_b r0_3_l r0_3_c r1 w' h2⟩
def framem_Link_Decode.RV (R : Int → Int → Int → Option Addr → Nat → Nat → Int → World → Prop) (v : Value) (w : World) : Prop := match v with
  | .tuple ⟨[.agg ⟨[.int .i64 r0_0, .int .i64 r0_1, .int .i64 r0_2, .slice r0_3_b r0_3_l r0_3_c]⟩, .int .i64 r1]⟩ => R r0_0 r0_1 r0_2 r0_3_b r0_3_l r0_3_c r1 w
  | _ => False
theorem framem_Link_Decode.RV_elim {R : Int → Int → Int → Option Addr → Nat → Nat → Int → World → Prop} {v : Value} {w : World} (h : framem_Link_Decode.RV R v w) : ∃ r0_0 r0_1 r0_2 r0_3_b r0_3_l r0_3_c r1, Ending.returned v = .returned (.tuple #[.agg #[.int .i64 r0_0, .int .i64 r0_1, .int .i64 r0_2, .slice r0_3_b r0_3_l r0_3_c], .int .i64 r1]) ∧ R r0_0 r0_1 r0_2 r0_3_b r0_3_l r0_3_c r1 w := by
  unfold framem_Link_Decode.RV at h
  split at h
  · exact ⟨_, _, _, _, _, _, _, rfl, h⟩
  · exact h.elim
/-- e2e/framelaw.SameFrame -/
def framelaw_SameFrame.Call (f_0 f_1 f_2 : Int) (f_3_b : Option Addr) (f_3_l f_3_c : Nat) (g_0 g_1 g_2 : Int) (g_3_b : Option Addr) (g_3_l g_3_c : Nat) (w : World) (R : Bool → World → Prop) : Prop :=
  Calls Try.prog 29 #[.agg #[.int .i64 f_0, .int .i64 f_1, .int .i64 f_2, .slice f_3_b f_3_l f_3_c], .agg #[.int .i64 g_0, .int .i64 g_1, .int .i64 g_2, .slice g_3_b g_3_l g_3_c]] w fun e w' => ∃ r, e = .returned (.bool r) ∧ R r w'
theorem framelaw_SameFrame.Call.mono {f_0 f_1 f_2 f_3_b f_3_l f_3_c g_0 g_1 g_2 g_3_b g_3_l g_3_c} {w : World} {R R' : Bool → World → Prop} (h : framelaw_SameFrame.Call f_0 f_1 f_2 f_3_b f_3_l f_3_c g_0 g_1 g_2 g_3_b g_3_l g_3_c w R) (hr : ∀ r w', R r w' → R' r w') : framelaw_SameFrame.Call f_0 f_1 f_2 f_3_b f_3_l f_3_c g_0 g_1 g_2 g_3_b g_3_l g_3_c w R' :=
  Calls.mono h fun e w' he => by
    obtain ⟨r, h1, h2⟩ := he
    exact ⟨r, h1, hr r w' h2⟩
def framelaw_SameFrame.RV (R : Bool → World → Prop) (v : Value) (w : World) : Prop := match v with
  | .bool r => R r w
  | _ => False
theorem framelaw_SameFrame.RV_elim {R : Bool → World → Prop} {v : Value} {w : World} (h : framelaw_SameFrame.RV R v w) : ∃ r, Ending.returned v = .returned (.bool r) ∧ R r w := by
  unfold framelaw_SameFrame.RV at h
  split at h
  · exact ⟨_, rfl, h⟩
  · exact h.elim
/-- (*e2e/frame.Link).Addr -/
def frame_Link_Addr.Call (l : Option Addr) (w : World) (R : Int → World → Prop) : Prop :=
  Calls Try.prog 30 #[.pointer l] w fun e w' => ∃ r, e = .returned (.int .i64 r) ∧ R r w'
theorem frame_Link_Addr.Call.mono {l} {w : World} {R R' : Int → World → Prop} (h : frame_Link_Addr.Call l w R) (hr : ∀ r w', R r w' → R' r w') : frame_Link_Addr.Call l w R' :=
  Calls.mono h fun e w' he => by
    obtain ⟨r, h1, h2⟩ := he
    exact ⟨r, h1, hr r w' h2⟩
def frame_Link_Addr.RV (R : Int → World → Prop) (v : Value) (w : World) : Prop := match v with
  | .int .i64 r => R r w
  | _ => False
theorem frame_Link_Addr.RV_elim {R : Int → World → Prop} {v : Value} {w : World} (h : frame_Link_Addr.RV R v w) : ∃ r, Ending.returned v = .returned (.int .i64 r) ∧ R r w := by
  unfold frame_Link_Addr.RV at h
  split at h
  · exact ⟨_, rfl, h⟩
  · exact h.elim
/-- (*e2e/frame.Link).Stats -/
def frame_Link_Stats.Call (l : Option Addr) (w : World) (R : Int → Int → Int → Int → World → Prop) : Prop :=
  Calls Try.prog 31 #[.pointer l] w fun e w' => ∃ r_0 r_1 r_2 r_3, e = .returned (.agg #[.int .i64 r_0, .int .i64 r_1, .int .i64 r_2, .int .i64 r_3]) ∧ R r_0 r_1 r_2 r_3 w'
theorem frame_Link_Stats.Call.mono {l} {w : World} {R R' : Int → Int → Int → Int → World → Prop} (h : frame_Link_Stats.Call l w R) (hr : ∀ r_0 r_1 r_2 r_3 w', R r_0 r_1 r_2 r_3 w' → R' r_0 r_1 r_2 r_3 w') : frame_Link_Stats.Call l w R' :=
  Calls.mono h fun e w' he => by
    obtain ⟨r_0, r_1, r_2, r_3, h1, h2⟩ := he
    exact ⟨r_0, r_1, r_2, r_3, h1, hr r_0 r_1 r_2 r_3 w' h2⟩
def frame_Link_Stats.RV (R : Int → Int → Int → Int → World → Prop) (v : Value) (w : World) : Prop := match v with
  | .agg ⟨[.int .i64 r_0, .int .i64 r_1, .int .i64 r_2, .int .i64 r_3]⟩ => R r_0 r_1 r_2 r_3 w
  | _ => False
theorem frame_Link_Stats.RV_elim {R : Int → Int → Int → Int → World → Prop} {v : Value} {w : World} (h : frame_Link_Stats.RV R v w) : ∃ r_0 r_1 r_2 r_3, Ending.returned v = .returned (.agg #[.int .i64 r_0, .int .i64 r_1, .int .i64 r_2, .int .i64 r_3]) ∧ R r_0 r_1 r_2 r_3 w := by
  unfold frame_Link_Stats.RV at h
  split at h
  · exact ⟨_, _, _, _, rfl, h⟩
  · exact h.elim
/-- (*e2e/framem.Link).Stats -/
def framem_Link_Stats.Call (l : Option Addr) (w : World) (R : Int → Int → Int → Int → World → Prop) : Prop :=
  Calls Try.prog 32 #[.pointer l] w fun e w' => ∃ r_0 r_1 r_2 r_3, e = .returned (.agg #[.int .i64 r_0, .int .i64 r_1, .int .i64 r_2, .int .i64 r_3]) ∧ R r_0 r_1 r_2 r_3 w'
theorem framem_Link_Stats.Call.mono {l} {w : World} {R R' : Int → Int → Int → Int → World → Prop} (h : framem_Link_Stats.Call l w R) (hr : ∀ r_0 r_1 r_2 r_3 w', R r_0 r_1 r_2 r_3 w' → R' r_0 r_1 r_2 r_3 w') : framem_Link_Stats.Call l w R' :=
  Calls.mono h fun e w' he => by
    obtain ⟨r_0, r_1, r_2, r_3, h1, h2⟩ := he
    exact ⟨r_0, r_1, r_2, r_3, h1, hr r_0 r_1 r_2 r_3 w' h2⟩
def framem_Link_Stats.RV (R : Int → Int → Int → Int → World → Prop) (v : Value) (w : World) : Prop := match v with
  | .agg ⟨[.int .i64 r_0, .int .i64 r_1, .int .i64 r_2, .int .i64 r_3]⟩ => R r_0 r_1 r_2 r_3 w
  | _ => False
theorem framem_Link_Stats.RV_elim {R : Int → Int → Int → Int → World → Prop} {v : Value} {w : World} (h : framem_Link_Stats.RV R v w) : ∃ r_0 r_1 r_2 r_3, Ending.returned v = .returned (.agg #[.int .i64 r_0, .int .i64 r_1, .int .i64 r_2, .int .i64 r_3]) ∧ R r_0 r_1 r_2 r_3 w := by
  unfold framem_Link_Stats.RV at h
  split at h
  · exact ⟨_, _, _, _, rfl, h⟩
  · exact h.elim
/-- (*e2e/frame.Sum).AddAll -/
def frame_Sum_AddAll.Call (u p_b : Option Addr) (p_l p_c : Nat) (w : World) (R : World → Prop) : Prop :=
  Calls Try.prog 33 #[.pointer u, .slice p_b p_l p_c] w fun e w' => e = .returned (.tuple #[]) ∧ R w'
theorem frame_Sum_AddAll.Call.mono {u p_b p_l p_c} {w : World} {R R' : World → Prop} (h : frame_Sum_AddAll.Call u p_b p_l p_c w R) (hr : ∀ w', R w' → R'  w') : frame_Sum_AddAll.Call u p_b p_l p_c w R' :=
  Calls.mono h fun e w' he => by
    obtain ⟨h1, h2⟩ := he
    exact ⟨h1, hr  w' h2⟩
def frame_Sum_AddAll.RV (R : World → Prop) (v : Value) (w : World) : Prop := match v with
  | .tuple ⟨[]⟩ => R w
  | _ => False
theorem frame_Sum_AddAll.RV_elim {R : World → Prop} {v : Value} {w : World} (h : frame_Sum_AddAll.RV R v w) : Ending.returned v = .returned (.tuple #[]) ∧ R w := by
  unfold frame_Sum_AddAll.RV at h
  split at h
  · exact ⟨rfl, h⟩
  · exact h.elim
/-- (*e2e/frame.Sum).Add -/
def frame_Sum_Add.Call (u : Option Addr) (b : Int) (w : World) (R : World → Prop) : Prop :=
  Calls Try.prog 34 #[.pointer u, .int .u8 b] w fun e w' => e = .returned (.tuple #[]) ∧ R w'
theorem frame_Sum_Add.Call.mono {u b} {w : World} {R R' : World → Prop} (h : frame_Sum_Add.Call u b w R) (hr : ∀ w', R w' → R'  w') : frame_Sum_Add.Call u b w R' :=
  Calls.mono h fun e w' he => by
    obtain ⟨h1, h2⟩ := he
    exact ⟨h1, hr  w' h2⟩
def frame_Sum_Add.RV (R : World → Prop) (v : Value) (w : World) : Prop := match v with
  | .tuple ⟨[]⟩ => R w
  | _ => False
theorem frame_Sum_Add.RV_elim {R : World → Prop} {v : Value} {w : World} (h : frame_Sum_Add.RV R v w) : Ending.returned v = .returned (.tuple #[]) ∧ R w := by
  unfold frame_Sum_Add.RV at h
  split at h
  · exact ⟨rfl, h⟩
  · exact h.elim
/-- (*e2e/frame.Sum).A -/
def frame_Sum_A.Call (u : Option Addr) (w : World) (R : Int → World → Prop) : Prop :=
  Calls Try.prog 35 #[.pointer u] w fun e w' => ∃ r, e = .returned (.int .u8 r) ∧ R r w'
theorem frame_Sum_A.Call.mono {u} {w : World} {R R' : Int → World → Prop} (h : frame_Sum_A.Call u w R) (hr : ∀ r w', R r w' → R' r w') : frame_Sum_A.Call u w R' :=
  Calls.mono h fun e w' he => by
    obtain ⟨r, h1, h2⟩ := he
    exact ⟨r, h1, hr r w' h2⟩
def frame_Sum_A.RV (R : Int → World → Prop) (v : Value) (w : World) : Prop := match v with
  | .int .u8 r => R r w
  | _ => False
theorem frame_Sum_A.RV_elim {R : Int → World → Prop} {v : Value} {w : World} (h : frame_Sum_A.RV R v w) : ∃ r, Ending.returned v = .returned (.int .u8 r) ∧ R r w := by
  unfold frame_Sum_A.RV at h
  split at h
  · exact ⟨_, rfl, h⟩
  · exact h.elim
/-- (*e2e/frame.Sum).B -/
def frame_Sum_B.Call (u : Option Addr) (w : World) (R : Int → World → Prop) : Prop :=
  Calls Try.prog 36 #[.pointer u] w fun e w' => ∃ r, e = .returned (.int .u8 r) ∧ R r w'
theorem frame_Sum_B.Call.mono {u} {w : World} {R R' : Int → World → Prop} (h : frame_Sum_B.Call u w R) (hr : ∀ r w', R r w' → R' r w') : frame_Sum_B.Call u w R' :=
  Calls.mono h fun e w' he => by
    obtain ⟨r, h1, h2⟩ := he
    exact ⟨r, h1, hr r w' h2⟩
def frame_Sum_B.RV (R : Int → World → Prop) (v : Value) (w : World) : Prop := match v with
  | .int .u8 r => R r w
  | _ => False
theorem frame_Sum_B.RV_elim {R : Int → World → Prop} {v : Value} {w : World} (h : frame_Sum_B.RV R v w) : ∃ r, Ending.returned v = .returned (.int .u8 r) ∧ R r w := by
  unfold frame_Sum_B.RV at h
  split at h
  · exact ⟨_, rfl, h⟩
  · exact h.elim
/-- (*e2e/frame.Link).count -/
def frame_Link_count.Call (l : Option Addr) (c : Int) (w : World) (R : World → Prop) : Prop :=
  Calls Try.prog 37 #[.pointer l, .int .i64 c] w fun e w' => e = .returned (.tuple #[]) ∧ R w'
theorem frame_Link_count.Call.mono {l c} {w : World} {R R' : World → Prop} (h : frame_Link_count.Call l c w R) (hr : ∀ w', R w' → R'  w') : frame_Link_count.Call l c w R' :=
  Calls.mono h fun e w' he => by
    obtain ⟨h1, h2⟩ := he
    exact ⟨h1, hr  w' h2⟩
def frame_Link_count.RV (R : World → Prop) (v : Value) (w : World) : Prop := match v with
  | .tuple ⟨[]⟩ => R w
  | _ => False
theorem frame_Link_count.RV_elim {R : World → Prop} {v : Value} {w : World} (h : frame_Link_count.RV R v w) : Ending.returned v = .returned (.tuple #[]) ∧ R w := by
  unfold frame_Link_count.RV at h
  split at h
  · exact ⟨rfl, h⟩
  · exact h.elim
/-- e2e/framem.sumA -/
def framem_sumA.Call (b_b : Option Addr) (b_l b_c : Nat) (w : World) (R : Int → World → Prop) : Prop :=
  Calls Try.prog 38 #[.slice b_b b_l b_c] w fun e w' => ∃ r, e = .returned (.int .i64 r) ∧ R r w'
theorem framem_sumA.Call.mono {b_b b_l b_c} {w : World} {R R' : Int → World → Prop} (h : framem_sumA.Call b_b b_l b_c w R) (hr : ∀ r w', R r w' → R' r w') : framem_sumA.Call b_b b_l b_c w R' :=
  Calls.mono h fun e w' he => by
    obtain ⟨r, h1, h2⟩ := he
    exact ⟨r, h1, hr r w' h2⟩
def framem_sumA.RV (R : Int → World → Prop) (v : Value) (w : World) : Prop := match v with
  | .int .i64 r => R r w
  | _ => False
theorem framem_sumA.RV_elim {R : Int → World → Prop} {v : Value} {w : World} (h : framem_sumA.RV R v w) : ∃ r, Ending.returned v = .returned (.int .i64 r) ∧ R r w := by
  unfold framem_sumA.RV at h
  split at h
  · exact ⟨_, rfl, h⟩
  · exact h.elim
/-- e2e/framem.sumB -/
def framem_sumB.Call (b_b : Option Addr) (b_l b_c : Nat) (w : World) (R : Int → World → Prop) : Prop :=
  Calls Try.prog 39 #[.slice b_b b_l b_c] w fun e w' => ∃ r, e = .returned (.int .i64 r) ∧ R r w'
theorem framem_sumB.Call.mono {b_b b_l b_c} {w : World} {R R' : Int → World → Prop} (h : framem_sumB.Call b_b b_l b_c w R) (hr : ∀ r w', R r w' → R' r w') : framem_sumB.Call b_b b_l b_c w R' :=
  Calls.mono h fun e w' he => by
    obtain ⟨r, h1, h2⟩ := he
    exact ⟨r, h1, hr r w' h2⟩
def framem_sumB.RV (R : Int → World → Prop) (v : Value) (w : World) : Prop := match v with
  | .int .i64 r => R r w
  | _ => False
theorem framem_sumB.RV_elim {R : Int → World → Prop} {v : Value} {w : World} (h : framem_sumB.RV R v w) : ∃ r, Ending.returned v = .returned (.int .i64 r) ∧ R r w := by
  unfold framem_sumB.RV at h
  split at h
  · exact ⟨_, rfl, h⟩
  · exact h.elim
/-- e2e/frame.sound -/
def frame_sound.Call (raw_b : Option Addr) (raw_l raw_c : Nat) (w : World) (R : Int → World → Prop) : Prop :=
  Calls Try.prog 40 #[.slice raw_b raw_l raw_c] w fun e w' => ∃ r, e = .returned (.int .i64 r) ∧ R r w'
theorem frame_sound.Call.mono {raw_b raw_l raw_c} {w : World} {R R' : Int → World → Prop} (h : frame_sound.Call raw_b raw_l raw_c w R) (hr : ∀ r w', R r w' → R' r w') : frame_sound.Call raw_b raw_l raw_c w R' :=
  Calls.mono h fun e w' he => by
    obtain ⟨r, h1, h2⟩ := he
    exact ⟨r, h1, hr r w' h2⟩
def frame_sound.RV (R : Int → World → Prop) (v : Value) (w : World) : Prop := match v with
  | .int .i64 r => R r w
  | _ => False
theorem frame_sound.RV_elim {R : Int → World → Prop} {v : Value} {w : World} (h : frame_sound.RV R v w) : ∃ r, Ending.returned v = .returned (.int .i64 r) ∧ R r w := by
  unfold frame_sound.RV at h
  split at h
  · exact ⟨_, rfl, h⟩
  · exact h.elim
/-- e2e/framem.check -/
def framem_check.Call (raw_b : Option Addr) (raw_l raw_c : Nat) (w : World) (R : Int → World → Prop) : Prop :=
  Calls Try.prog 41 #[.slice raw_b raw_l raw_c] w fun e w' => ∃ r, e = .returned (.int .i64 r) ∧ R r w'
theorem framem_check.Call.mono {raw_b raw_l raw_c} {w : World} {R R' : Int → World → Prop} (h : framem_check.Call raw_b raw_l raw_c w R) (hr : ∀ r w', R r w' → R' r w') : framem_check.Call raw_b raw_l raw_c w R' :=
  Calls.mono h fun e w' he => by
    obtain ⟨r, h1, h2⟩ := he
    exact ⟨r, h1, hr r w' h2⟩
def framem_check.RV (R : Int → World → Prop) (v : Value) (w : World) : Prop := match v with
  | .int .i64 r => R r w
  | _ => False
theorem framem_check.RV_elim {R : Int → World → Prop} {v : Value} {w : World} (h : framem_check.RV R v w) : ∃ r, Ending.returned v = .returned (.int .i64 r) ∧ R r w := by
  unfold framem_check.RV at h
  split at h
  · exact ⟨_, rfl, h⟩
  · exact h.elim
end Go.Proofs.Qxb6500423a
