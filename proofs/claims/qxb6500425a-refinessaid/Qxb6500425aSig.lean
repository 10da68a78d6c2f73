import Derived.Test.Qxb6500425aProg
import Derived.Test.Qxb6500425aVcC
open Go.Vc
namespace Go.Proofs.Qxb6500425a
theorem Try.mixed : Try.prog.follows .mixedOrders = true := by kernel_rfl
abbrev T_int64 : TypeId := 2
abbrev T_int : TypeId := 3
abbrev T_bool : TypeId := 4
abbrev T_uint8 : TypeId := 5
abbrev T_string : TypeId := 9
abbrev T_uintptr : TypeId := 12
abbrev T_int32 : TypeId := 21
abbrev T_api_Op : TypeId := 32
abbrev T_iplaw_World : TypeId := 43
abbrev T_uint64 : TypeId := 48
abbrev T_ip_slot : TypeId := 51
abbrev T_ip_IP : TypeId := 54
abbrev T_ipm_IP : TypeId := 57
abbrev T_api_Reasm : TypeId := 70
abbrev T_api_Errno : TypeId := 75
abbrev T_api_Datagram : TypeId := 81
abbrev T_ipm_entry : TypeId := 85
abbrev T_ip_rows : TypeId := 89
abbrev T_uint : TypeId := 92
abbrev T_uint32 : TypeId := 109
/-- e2e/iplaw.Refines -/
def iplaw_Refines.Call (script_b : Option Addr) (script_l script_c : Nat) (w : World) (R : Bool → World → Prop) : Prop :=
  Calls Try.prog 3 #[.slice script_b script_l script_c] w fun e w' => ∃ r, e = .returned (.bool r) ∧ R r w'
theorem iplaw_Refines.Call.mono {script_b script_l script_c} {w : World} {R R' : Bool → World → Prop} (h : iplaw_Refines.Call script_b script_l script_c w R) (hr : ∀ r w', R r w' → R' r w') : iplaw_Refines.Call script_b script_l script_c w R' :=
  Calls.mono h fun e w' he => by
    obtain ⟨r, h1, h2⟩ := he
    exact ⟨r, h1, hr r w' h2⟩
def iplaw_Refines.RV (R : Bool → World → Prop) (v : Value) (w : World) : Prop := match v with
  | .bool r => R r w
  | _ => False
theorem iplaw_Refines.RV_elim {R : Bool → World → Prop} {v : Value} {w : World} (h : iplaw_Refines.RV R v w) : ∃ r, Ending.returned v = .returned (.bool r) ∧ R r w := by
  unfold iplaw_Refines.RV at h
  split at h
  · exact ⟨_, rfl, h⟩
  · exact h.elim
/-- e2e/iplaw.RefinesQuiet -/
def iplaw_RefinesQuiet.Call (script_b : Option Addr) (script_l script_c : Nat) (w : World) (R : Bool → World → Prop) : Prop :=
  Calls Try.prog 4 #[.slice script_b script_l script_c] w fun e w' => ∃ r, e = .returned (.bool r) ∧ R r w'
theorem iplaw_RefinesQuiet.Call.mono {script_b script_l script_c} {w : World} {R R' : Bool → World → Prop} (h : iplaw_RefinesQuiet.Call script_b script_l script_c w R) (hr : ∀ r w', R r w' → R' r w') : iplaw_RefinesQuiet.Call script_b script_l script_c w R' :=
  Calls.mono h fun e w' he => by
    obtain ⟨r, h1, h2⟩ := he
    exact ⟨r, h1, hr r w' h2⟩
def iplaw_RefinesQuiet.RV (R : Bool → World → Prop) (v : Value) (w : World) : Prop := match v with
  | .bool r => R r w
  | _ => False
theorem iplaw_RefinesQuiet.RV_elim {R : Bool → World → Prop} {v : Value} {w : World} (h : iplaw_RefinesQuiet.RV R v w) : ∃ r, Ending.returned v = .returned (.bool r) ∧ R r w := by
  unfold iplaw_RefinesQuiet.RV at h
  split at h
  · exact ⟨_, rfl, h⟩
  · exact h.elim
/-- e2e/iplaw.RefinesUpTo -/
def iplaw_RefinesUpTo.Call (script_b : Option Addr) (script_l script_c : Nat) (w : World) (R : Int → World → Prop) : Prop :=
  Calls Try.prog 5 #[.slice script_b script_l script_c] w fun e w' => ∃ r, e = .returned (.int .i64 r) ∧ R r w'
theorem iplaw_RefinesUpTo.Call.mono {script_b script_l script_c} {w : World} {R R' : Int → World → Prop} (h : iplaw_RefinesUpTo.Call script_b script_l script_c w R) (hr : ∀ r w', R r w' → R' r w') : iplaw_RefinesUpTo.Call script_b script_l script_c w R' :=
  Calls.mono h fun e w' he => by
    obtain ⟨r, h1, h2⟩ := he
    exact ⟨r, h1, hr r w' h2⟩
def iplaw_RefinesUpTo.RV (R : Int → World → Prop) (v : Value) (w : World) : Prop := match v with
  | .int .i64 r => R r w
  | _ => False
theorem iplaw_RefinesUpTo.RV_elim {R : Int → World → Prop} {v : Value} {w : World} (h : iplaw_RefinesUpTo.RV R v w) : ∃ r, Ending.returned v = .returned (.int .i64 r) ∧ R r w := by
  unfold iplaw_RefinesUpTo.RV at h
  split at h
  · exact ⟨_, rfl, h⟩
  · exact h.elim
/-- e2e/iplaw.RefinesQuietUpTo -/
def iplaw_RefinesQuietUpTo.Call (script_b : Option Addr) (script_l script_c : Nat) (w : World) (R : Int → World → Prop) : Prop :=
  Calls Try.prog 6 #[.slice script_b script_l script_c] w fun e w' => ∃ r, e = .returned (.int .i64 r) ∧ R r w'
theorem iplaw_RefinesQuietUpTo.Call.mono {script_b script_l script_c} {w : World} {R R' : Int → World → Prop} (h : iplaw_RefinesQuietUpTo.Call script_b script_l script_c w R) (hr : ∀ r w', R r w' → R' r w') : iplaw_RefinesQuietUpTo.Call script_b script_l script_c w R' :=
  Calls.mono h fun e w' he => by
    obtain ⟨r, h1, h2⟩ := he
    exact ⟨r, h1, hr r w' h2⟩
def iplaw_RefinesQuietUpTo.RV (R : Int → World → Prop) (v : Value) (w : World) : Prop := match v with
  | .int .i64 r => R r w
  | _ => False
theorem iplaw_RefinesQuietUpTo.RV_elim {R : Int → World → Prop} {v : Value} {w : World} (h : iplaw_RefinesQuietUpTo.RV R v w) : ∃ r, Ending.returned v = .returned (.int .i64 r) ∧ R r w := by
  unfold iplaw_RefinesQuietUpTo.RV at h
  split at h
  · exact ⟨_, rfl, h⟩
  · exact h.elim
/-- e2e/iplaw.walk -/
def iplaw_walk.Call (script_b : Option Addr) (script_l script_c : Nat) (quiet : Bool) (w : World) (R : Int → Int → World → Prop) : Prop :=
  Calls Try.prog 7 #[.slice script_b script_l script_c, .bool quiet] w fun e w' => ∃ r0 r1, e = .returned (.tuple #[.int .i64 r0, .int .i64 r1]) ∧ R r0 r1 w'
theorem iplaw_walk.Call.mono {script_b script_l script_c quiet} {w : World} {R R' : Int → Int → World → Prop} (h : iplaw_walk.Call script_b script_l script_c quiet w R) (hr : ∀ r0 r1 w', R r0 r1 w' → R' r0 r1 w') : iplaw_walk.Call script_b script_l script_c quiet w R' :=
  Calls.mono h fun e w' he => by
    obtain ⟨r0, r1, h1, h2⟩ := he
    exact ⟨r0, r1, h1, hr r0 r1 w' h2⟩
def iplaw_walk.RV (R : Int → Int → World → Prop) (v : Value) (w : World) : Prop := match v with
  | .tuple ⟨[.int .i64 r0, .int .i64 r1]⟩ => R r0 r1 w
  | _ => False
theorem iplaw_walk.RV_elim {R : Int → Int → World → Prop} {v : Value} {w : World} (h : iplaw_walk.RV R v w) : ∃ r0 r1, Ending.returned v = .returned (.tuple #[.int .i64 r0, .int .i64 r1]) ∧ R r0 r1 w := by
  unfold iplaw_walk.RV at h
  split at h
  · exact ⟨_, _, rfl, h⟩
  · exact h.elim
/-- e2e/iplaw.NewWorld -/
def iplaw_NewWorld.Call  (w : World) (R : Option Addr → World → Prop) : Prop :=
  Calls Try.prog 8 #[] w fun e w' => ∃ r, e = .returned (.pointer r) ∧ R r w'
theorem iplaw_NewWorld.Call.mono {w : World} {R R' : Option Addr → World → Prop} (h : iplaw_NewWorld.Call w R) (hr : ∀ r w', R r w' → R' r w') : iplaw_NewWorld.Call w R' :=
  Calls.mono h fun e w' he => by
    obtain ⟨r, h1, h2⟩ := he
    exact ⟨r, h1, hr r w' h2⟩
def iplaw_NewWorld.RV (R : Option Addr → World → Prop) (v : Value) (w : World) : Prop := match v with
  | .pointer r => R r w
  | _ => False
theorem iplaw_NewWorld.RV_elim {R : Option Addr → World → Prop} {v : Value} {w : World} (h : iplaw_NewWorld.RV R v w) : ∃ r, Ending.returned v = .returned (.pointer r) ∧ R r w := by
  unfold iplaw_NewWorld.RV at h
  split at h
  · exact ⟨_, rfl, h⟩
  · exact h.elim
/-- (*e2e/iplaw.World).Both -/
def iplaw_World_Both.Call (w0 : Option Addr) (w : World) (R : Bool → World → Prop) : Prop :=
  Calls Try.prog 9 #[.pointer w0] w fun e w' => ∃ r, e = .returned (.bool r) ∧ R r w'
theorem iplaw_World_Both.Call.mono {w0} {w : World} {R R' : Bool → World → Prop} (h : iplaw_World_Both.Call w0 w R) (hr : ∀ r w', R r w' → R' r w') : iplaw_World_Both.Call w0 w R' :=
  Calls.mono h fun e w' he => by
    obtain ⟨r, h1, h2⟩ := he
    exact ⟨r, h1, hr r w' h2⟩
def iplaw_World_Both.RV (R : Bool → World → Prop) (v : Value) (w : World) : Prop := match v with
  | .bool r => R r w
  | _ => False
theorem iplaw_World_Both.RV_elim {R : Bool → World → Prop} {v : Value} {w : World} (h : iplaw_World_Both.RV R v w) : ∃ r, Ending.returned v = .returned (.bool r) ∧ R r w := by
  unfold iplaw_World_Both.RV at h
  split at h
  · exact ⟨_, rfl, h⟩
  · exact h.elim
/-- (*e2e/iplaw.World).Step -/
def iplaw_World_Step.Call (w0 : Option Addr) (o_0 o_1 o_2 o_3 : Int) (o_4 o_5 : ByteArray) (quiet : Bool) (w : World) (R : Bool → World → Prop) : Prop :=
  Calls Try.prog 10 #[.pointer w0, .agg #[.int .i64 o_0, .int .i64 o_1, .int .i64 o_2, .int .i64 o_3, .string o_4, .string o_5], .bool quiet] w fun e w' => ∃ r, e = .returned (.bool r) ∧ R r w'
theorem iplaw_World_Step.Call.mono {w0 o_0 o_1 o_2 o_3 o_4 o_5 quiet} {w : World} {R R' : Bool → World → Prop} (h : iplaw_World_Step.Call w0 o_0 o_1 o_2 o_3 o_4 o_5 quiet w R) (hr : ∀ r w', R r w' → R' r w') : iplaw_World_Step.Call w0 o_0 o_1 o_2 o_3 o_4 o_5 quiet w R' :=
  Calls.mono h fun e w' he => by
    obtain ⟨r, h1, h2⟩ := he
    exact ⟨r, h1, hr r w' h2⟩
def iplaw_World_Step.RV (R : Bool → World → Prop) (v : Value) (w : World) : Prop := match v with
  | .bool r => R r w
  | _ => False
theorem iplaw_World_Step.RV_elim {R : Bool → World → Prop} {v : Value} {w : World} (h : iplaw_World_Step.RV R v w) : ∃ r, Ending.returned v = .returned (.bool r) ∧ R r w := by
  unfold iplaw_World_Step.RV at h
  split at h
  · exact ⟨_, rfl, h⟩
  · exact h.elim
/-- e2e/ip.New -/
def ip_New.Call (addr : Int) (w : World) (R : Option Addr → World → Prop) : Prop :=
  Calls Try.prog 11 #[.int .i64 addr] w fun e w' => ∃ r, e = .returned (.pointer r) ∧ R r w'
theorem ip_New.Call.mono {addr} {w : World} {R R' : Option Addr → World → Prop} (h : ip_New.Call addr w R) (hr : ∀ r w', R r w' → R' r w') : ip_New.Call addr w R' :=
  Calls.mono h fun e w' he => by
    obtain ⟨r, h1, h2⟩ := he
    exact ⟨r, h1, hr r w' h2⟩
def ip_New.RV (R : Option Addr → World → Prop) (v : Value) (w : World) : Prop := match v with
  | .pointer r => R r w
  | _ => False
theorem ip_New.RV_elim {R : Option Addr → World → Prop} {v : Value} {w : World} (h : ip_New.RV R v w) : ∃ r, Ending.returned v = .returned (.pointer r) ∧ R r w := by
  unfold ip_New.RV at h
  split at h
  · exact ⟨_, rfl, h⟩
  · exact h.elim
/-- e2e/ipm.New -/
def ipm_New.Call (addr : Int) (w : World) (R : Option Addr → World → Prop) : Prop :=
  Calls Try.prog 12 #[.int .i64 addr] w fun e w' => ∃ r, e = .returned (.pointer r) ∧ R r w'
theorem ipm_New.Call.mono {addr} {w : World} {R R' : Option Addr → World → Prop} (h : ipm_New.Call addr w R) (hr : ∀ r w', R r w' → R' r w') : ipm_New.Call addr w R' :=
  Calls.mono h fun e w' he => by
    obtain ⟨r, h1, h2⟩ := he
    exact ⟨r, h1, hr r w' h2⟩
def ipm_New.RV (R : Option Addr → World → Prop) (v : Value) (w : World) : Prop := match v with
  | .pointer r => R r w
  | _ => False
theorem ipm_New.RV_elim {R : Option Addr → World → Prop} {v : Value} {w : World} (h : ipm_New.RV R v w) : ∃ r, Ending.returned v = .returned (.pointer r) ∧ R r w := by
  unfold ipm_New.RV at h
  split at h
  · exact ⟨_, rfl, h⟩
  · exact h.elim
/-- e2e/iplaw.Alike -/
def iplaw_Alike.Call (x m0 : Option Addr) (w : World) (R : Bool → World → Prop) : Prop :=
  Calls Try.prog 13 #[.pointer x, .pointer m0] w fun e w' => ∃ r, e = .returned (.bool r) ∧ R r w'
theorem iplaw_Alike.Call.mono {x m0} {w : World} {R R' : Bool → World → Prop} (h : iplaw_Alike.Call x m0 w R) (hr : ∀ r w', R r w' → R' r w') : iplaw_Alike.Call x m0 w R' :=
  Calls.mono h fun e w' he => by
    obtain ⟨r, h1, h2⟩ := he
    exact ⟨r, h1, hr r w' h2⟩
def iplaw_Alike.RV (R : Bool → World → Prop) (v : Value) (w : World) : Prop := match v with
  | .bool r => R r w
  | _ => False
theorem iplaw_Alike.RV_elim {R : Bool → World → Prop} {v : Value} {w : World} (h : iplaw_Alike.RV R v w) : ∃ r, Ending.returned v = .returned (.bool r) ∧ R r w := by
  unfold iplaw_Alike.RV at h
  split at h
  · exact ⟨_, rfl, h⟩
  · exact h.elim
/-- (*e2e/iplaw.World).Play -/
def iplaw_World_Play.Call (w0 : Option Addr) (o_0 o_1 o_2 o_3 : Int) (o_4 o_5 : ByteArray) (c : Int) (w : World) (R : Bool → World → Prop) : Prop :=
  Calls Try.prog 14 #[.pointer w0, .agg #[.int .i64 o_0, .int .i64 o_1, .int .i64 o_2, .int .i64 o_3, .string o_4, .string o_5], .int .i64 c] w fun e w' => ∃ r, e = .returned (.bool r) ∧ R r w'
theorem iplaw_World_Play.Call.mono {w0 o_0 o_1 o_2 o_3 o_4 o_5 c} {w : World} {R R' : Bool → World → Prop} (h : iplaw_World_Play.Call w0 o_0 o_1 o_2 o_3 o_4 o_5 c w R) (hr : ∀ r w', R r w' → R' r w') : iplaw_World_Play.Call w0 o_0 o_1 o_2 o_3 o_4 o_5 c w R' :=
  Calls.mono h fun e w' he => by
    obtain ⟨r, h1, h2⟩ := he
    exact ⟨r, h1, hr r w' h2⟩
def iplaw_World_Play.RV (R : Bool → World → Prop) (v : Value) (w : World) : Prop := match v with
  | .bool r => R r w
  | _ => False
theorem iplaw_World_Play.RV_elim {R : Bool → World → Prop} {v : Value} {w : World} (h : iplaw_World_Play.RV R v w) : ∃ r, Ending.returned v = .returned (.bool r) ∧ R r w := by
  unfold iplaw_World_Play.RV at h
  split at h
  · exact ⟨_, rfl, h⟩
  · exact h.elim
/-- (*e2e/iplaw.World).Untouched -/
def iplaw_World_Untouched.Call (w0 : Option Addr) (w : World) (R : Bool → World → Prop) : Prop :=
  Calls Try.prog 15 #[.pointer w0] w fun e w' => ∃ r, e = .returned (.bool r) ∧ R r w'
theorem iplaw_World_Untouched.Call.mono {w0} {w : World} {R R' : Bool → World → Prop} (h : iplaw_World_Untouched.Call w0 w R) (hr : ∀ r w', R r w' → R' r w') : iplaw_World_Untouched.Call w0 w R' :=
  Calls.mono h fun e w' he => by
    obtain ⟨r, h1, h2⟩ := he
    exact ⟨r, h1, hr r w' h2⟩
def iplaw_World_Untouched.RV (R : Bool → World → Prop) (v : Value) (w : World) : Prop := match v with
  | .bool r => R r w
  | _ => False
theorem iplaw_World_Untouched.RV_elim {R : Bool → World → Prop} {v : Value} {w : World} (h : iplaw_World_Untouched.RV R v w) : ∃ r, Ending.returned v = .returned (.bool r) ∧ R r w := by
  unfold iplaw_World_Untouched.RV at h
  split at h
  · exact ⟨_, rfl, h⟩
  · exact h.elim
/-- e2e/iplaw.SameAddr -/
def iplaw_SameAddr.Call (x m0 : Option Addr) (w : World) (R : Bool → World → Prop) : Prop :=
  Calls Try.prog 16 #[.pointer x, .pointer m0] w fun e w' => ∃ r, e = .returned (.bool r) ∧ R r w'
theorem iplaw_SameAddr.Call.mono {x m0} {w : World} {R R' : Bool → World → Prop} (h : iplaw_SameAddr.Call x m0 w R) (hr : ∀ r w', R r w' → R' r w') : iplaw_SameAddr.Call x m0 w R' :=
  Calls.mono h fun e w' he => by
    obtain ⟨r, h1, h2⟩ := he
    exact ⟨r, h1, hr r w' h2⟩
def iplaw_SameAddr.RV (R : Bool → World → Prop) (v : Value) (w : World) : Prop := match v with
  | .bool r => R r w
  | _ => False
theorem iplaw_SameAddr.RV_elim {R : Bool → World → Prop} {v : Value} {w : World} (h : iplaw_SameAddr.RV R v w) : ∃ r, Ending.returned v = .returned (.bool r) ∧ R r w := by
  unfold iplaw_SameAddr.RV at h
  split at h
  · exact ⟨_, rfl, h⟩
  · exact h.elim
/-- e2e/iplaw.SameNextId -/
def iplaw_SameNextId.Call (x m0 : Option Addr) (w : World) (R : Bool → World → Prop) : Prop :=
  Calls Try.prog 17 #[.pointer x, .pointer m0] w fun e w' => ∃ r, e = .returned (.bool r) ∧ R r w'
theorem iplaw_SameNextId.Call.mono {x m0} {w : World} {R R' : Bool → World → Prop} (h : iplaw_SameNextId.Call x m0 w R) (hr : ∀ r w', R r w' → R' r w') : iplaw_SameNextId.Call x m0 w R' :=
  Calls.mono h fun e w' he => by
    obtain ⟨r, h1, h2⟩ := he
    exact ⟨r, h1, hr r w' h2⟩
def iplaw_SameNextId.RV (R : Bool → World → Prop) (v : Value) (w : World) : Prop := match v with
  | .bool r => R r w
  | _ => False
theorem iplaw_SameNextId.RV_elim {R : Bool → World → Prop} {v : Value} {w : World} (h : iplaw_SameNextId.RV R v w) : ∃ r, Ending.returned v = .returned (.bool r) ∧ R r w := by
  unfold iplaw_SameNextId.RV at h
  split at h
  · exact ⟨_, rfl, h⟩
  · exact h.elim
/-- e2e/iplaw.SameCredit -/
def iplaw_SameCredit.Call (x m0 : Option Addr) (w : World) (R : Bool → World → Prop) : Prop :=
  Calls Try.prog 18 #[.pointer x, .pointer m0] w fun e w' => ∃ r, e = .returned (.bool r) ∧ R r w'
theorem iplaw_SameCredit.Call.mono {x m0} {w : World} {R R' : Bool → World → Prop} (h : iplaw_SameCredit.Call x m0 w R) (hr : ∀ r w', R r w' → R' r w') : iplaw_SameCredit.Call x m0 w R' :=
  Calls.mono h fun e w' he => by
    obtain ⟨r, h1, h2⟩ := he
    exact ⟨r, h1, hr r w' h2⟩
def iplaw_SameCredit.RV (R : Bool → World → Prop) (v : Value) (w : World) : Prop := match v with
  | .bool r => R r w
  | _ => False
theorem iplaw_SameCredit.RV_elim {R : Bool → World → Prop} {v : Value} {w : World} (h : iplaw_SameCredit.RV R v w) : ∃ r, Ending.returned v = .returned (.bool r) ∧ R r w := by
  unfold iplaw_SameCredit.RV at h
  split at h
  · exact ⟨_, rfl, h⟩
  · exact h.elim
/-- e2e/iplaw.SamePending -/
def iplaw_SamePending.Call (x m0 : Option Addr) (w : World) (R : Option Addr → Nat → Nat → Bool → World → Prop) : Prop :=
  Calls Try.prog 19 #[.pointer x, .pointer m0] w fun e w' => ∃ r0_b r0_l r0_c r1, e = .returned (.tuple #[.slice r0_b r0_l r0_c, .bool r1]) ∧ R r0_b r0_l r0_c r1 w'
theorem iplaw_SamePending.Call.mono {x m0} {w : World} {R R' : Option Addr → Nat → Nat → Bool → World → Prop} (h : iplaw_SamePending.Call x m0 w R) (hr : ∀ r0_b r0_l r0_c r1 w', R r0_b r0_l r0_c r1 w' → R' r0_b r0_l r0_c r1 w') : iplaw_SamePending.Call x m0 w R' :=
  Calls.mono h fun e w' he => by
    obtain ⟨r0_b, r0_l, r0_c, r1, h1, h2⟩ := he
    exact ⟨r0_b, r0_l, r0_c, r1, h1, hr r0_b r0_l r0_c r1 w' h2⟩
def iplaw_SamePending.RV (R : Option Addr → Nat → Nat → Bool → World → Prop) (v : Value) (w : World) : Prop := match v with
  | .tuple ⟨[.slice r0_b r0_l r0_c, .bool r1]⟩ => R r0_b r0_l r0_c r1 w
  | _ => False
theorem iplaw_SamePending.RV_elim {R : Option Addr → Nat → Nat → Bool → World → Prop} {v : Value} {w : World} (h : iplaw_SamePending.RV R v w) : ∃ r0_b r0_l r0_c r1, Ending.returned v = .returned (.tuple #[.slice r0_b r0_l r0_c, .bool r1]) ∧ R r0_b r0_l r0_c r1 w := by
  unfold iplaw_SamePending.RV at h
  split at h
  · exact ⟨_, _, _, _, rfl, h⟩
  · exact h.elim
/-- e2e/iplaw.SamePeek -/
def iplaw_SamePeek.Call (x m0 : Option Addr) (i : Int) (w : World) (R : Option Addr → Nat → Nat → Bool → World → Prop) : Prop :=
  Calls Try.prog 20 #[.pointer x, .pointer m0, .int .i64 i] w fun e w' => ∃ r0_b r0_l r0_c r1, e = .returned (.tuple #[.slice r0_b r0_l r0_c, .bool r1]) ∧ R r0_b r0_l r0_c r1 w'
theorem iplaw_SamePeek.Call.mono {x m0 i} {w : World} {R R' : Option Addr → Nat → Nat → Bool → World → Prop} (h : iplaw_SamePeek.Call x m0 i w R) (hr : ∀ r0_b r0_l r0_c r1 w', R r0_b r0_l r0_c r1 w' → R' r0_b r0_l r0_c r1 w') : iplaw_SamePeek.Call x m0 i w R' :=
  Calls.mono h fun e w' he => by
    obtain ⟨r0_b, r0_l, r0_c, r1, h1, h2⟩ := he
    exact ⟨r0_b, r0_l, r0_c, r1, h1, hr r0_b r0_l r0_c r1 w' h2⟩
def iplaw_SamePeek.RV (R : Option Addr → Nat → Nat → Bool → World → Prop) (v : Value) (w : World) : Prop := match v with
  | .tuple ⟨[.slice r0_b r0_l r0_c, .bool r1]⟩ => R r0_b r0_l r0_c r1 w
  | _ => False
theorem iplaw_SamePeek.RV_elim {R : Option Addr → Nat → Nat → Bool → World → Prop} {v : Value} {w : World} (h : iplaw_SamePeek.RV R v w) : ∃ r0_b r0_l r0_c r1, Ending.returned v = .returned (.tuple #[.slice r0_b r0_l r0_c, .bool r1]) ∧ R r0_b r0_l r0_c r1 w := by
  unfold iplaw_SamePeek.RV at h
  split at h
  · exact ⟨_, _, _, _, rfl, h⟩
  · exact h.elim
/-- (*e2e/ip.IP).Check -/
def ip_IP_Check.Call (p : Option Addr) (w : World) (R : Bool → World → Prop) : Prop :=
  Calls Try.prog 21 #[.pointer p] w fun e w' => ∃ r, e = .returned (.bool r) ∧ R r w'
theorem ip_IP_Check.Call.mono {p} {w : World} {R R' : Bool → World → Prop} (h : ip_IP_Check.Call p w R) (hr : ∀ r w', R r w' → R' r w') : ip_IP_Check.Call p w R' :=
  Calls.mono h fun e w' he => by
    obtain ⟨r, h1, h2⟩ := he
    exact ⟨r, h1, hr r w' h2⟩
def ip_IP_Check.RV (R : Bool → World → Prop) (v : Value) (w : World) : Prop := match v with
  | .bool r => R r w
  | _ => False
theorem ip_IP_Check.RV_elim {R : Bool → World → Prop} {v : Value} {w : World} (h : ip_IP_Check.RV R v w) : ∃ r, Ending.returned v = .returned (.bool r) ∧ R r w := by
  unfold ip_IP_Check.RV at h
  split at h
  · exact ⟨_, rfl, h⟩
  · exact h.elim
/-- (*e2e/iplaw.World).SameOutput -/
def iplaw_World_SameOutput.Call (w0 : Option Addr) (c dst proto : Int) (data : ByteArray) (w : World) (R : Bool → World → Prop) : Prop :=
  Calls Try.prog 22 #[.pointer w0, .int .i64 c, .int .i64 dst, .int .i64 proto, .string data] w fun e w' => ∃ r, e = .returned (.bool r) ∧ R r w'
theorem iplaw_World_SameOutput.Call.mono {w0 c dst proto data} {w : World} {R R' : Bool → World → Prop} (h : iplaw_World_SameOutput.Call w0 c dst proto data w R) (hr : ∀ r w', R r w' → R' r w') : iplaw_World_SameOutput.Call w0 c dst proto data w R' :=
  Calls.mono h fun e w' he => by
    obtain ⟨r, h1, h2⟩ := he
    exact ⟨r, h1, hr r w' h2⟩
def iplaw_World_SameOutput.RV (R : Bool → World → Prop) (v : Value) (w : World) : Prop := match v with
  | .bool r => R r w
  | _ => False
theorem iplaw_World_SameOutput.RV_elim {R : Bool → World → Prop} {v : Value} {w : World} (h : iplaw_World_SameOutput.RV R v w) : ∃ r, Ending.returned v = .returned (.bool r) ∧ R r w := by
  unfold iplaw_World_SameOutput.RV at h
  split at h
  · exact ⟨_, rfl, h⟩
  · exact h.elim
/-- (*e2e/iplaw.World).SameInput -/
def iplaw_World_SameInput.Call (w0 : Option Addr) (c : Int) (raw : ByteArray) (w : World) (R : Bool → World → Prop) : Prop :=
  Calls Try.prog 23 #[.pointer w0, .int .i64 c, .string raw] w fun e w' => ∃ r, e = .returned (.bool r) ∧ R r w'
theorem iplaw_World_SameInput.Call.mono {w0 c raw} {w : World} {R R' : Bool → World → Prop} (h : iplaw_World_SameInput.Call w0 c raw w R) (hr : ∀ r w', R r w' → R' r w') : iplaw_World_SameInput.Call w0 c raw w R' :=
  Calls.mono h fun e w' he => by
    obtain ⟨r, h1, h2⟩ := he
    exact ⟨r, h1, hr r w' h2⟩
def iplaw_World_SameInput.RV (R : Bool → World → Prop) (v : Value) (w : World) : Prop := match v with
  | .bool r => R r w
  | _ => False
theorem iplaw_World_SameInput.RV_elim {R : Bool → World → Prop} {v : Value} {w : World} (h : iplaw_World_SameInput.RV R v w) : ∃ r, Ending.returned v = .returned (.bool r) ∧ R r w := by
  unfold iplaw_World_SameInput.RV at h
  split at h
  · exact ⟨_, rfl, h⟩
  · exact h.elim
/-- (*e2e/ip.IP).Tick -/
def ip_IP_Tick.Call (p : Option Addr) (w : World) (R : World → Prop) : Prop :=
  Calls Try.prog 24 #[.pointer p] w fun e w' => e = .returned (.tuple #[]) ∧ R w'
theorem ip_IP_Tick.Call.mono {p} {w : World} {R R' : World → Prop} (h : ip_IP_Tick.Call p w R) (hr : ∀ w', R w' → R'  w') : ip_IP_Tick.Call p w R' :=
  Calls.mono h fun e w' he => by
    obtain ⟨h1, h2⟩ := he
    exact ⟨h1, hr  w' h2⟩
def ip_IP_Tick.RV (R : World → Prop) (v : Value) (w : World) : Prop := match v with
  | .tuple ⟨[]⟩ => R w
  | _ => False
theorem ip_IP_Tick.RV_elim {R : World → Prop} {v : Value} {w : World} (h : ip_IP_Tick.RV R v w) : Ending.returned v = .returned (.tuple #[]) ∧ R w := by
  unfold ip_IP_Tick.RV at h
  split at h
  · exact ⟨rfl, h⟩
  · exact h.elim
/-- (*e2e/ipm.IP).Tick -/
def ipm_IP_Tick.Call (p : Option Addr) (w : World) (R : World → Prop) : Prop :=
  Calls Try.prog 25 #[.pointer p] w fun e w' => e = .returned (.tuple #[]) ∧ R w'
theorem ipm_IP_Tick.Call.mono {p} {w : World} {R R' : World → Prop} (h : ipm_IP_Tick.Call p w R) (hr : ∀ w', R w' → R'  w') : ipm_IP_Tick.Call p w R' :=
  Calls.mono h fun e w' he => by
    obtain ⟨h1, h2⟩ := he
    exact ⟨h1, hr  w' h2⟩
def ipm_IP_Tick.RV (R : World → Prop) (v : Value) (w : World) : Prop := match v with
  | .tuple ⟨[]⟩ => R w
  | _ => False
theorem ipm_IP_Tick.RV_elim {R : World → Prop} {v : Value} {w : World} (h : ipm_IP_Tick.RV R v w) : Ending.returned v = .returned (.tuple #[]) ∧ R w := by
  unfold ipm_IP_Tick.RV at h
  split at h
  · exact ⟨rfl, h⟩
  · exact h.elim
/-- (*e2e/iplaw.World).OwnRows -/
def iplaw_World_OwnRows.Call (w0 a_b : Option Addr) (a_l a_c : Nat) (w : World) (R : World → Prop) : Prop :=
  Calls Try.prog 26 #[.pointer w0, .slice a_b a_l a_c] w fun e w' => e = .returned (.tuple #[]) ∧ R w'
theorem iplaw_World_OwnRows.Call.mono {w0 a_b a_l a_c} {w : World} {R R' : World → Prop} (h : iplaw_World_OwnRows.Call w0 a_b a_l a_c w R) (hr : ∀ w', R w' → R'  w') : iplaw_World_OwnRows.Call w0 a_b a_l a_c w R' :=
  Calls.mono h fun e w' he => by
    obtain ⟨h1, h2⟩ := he
    exact ⟨h1, hr  w' h2⟩
def iplaw_World_OwnRows.RV (R : World → Prop) (v : Value) (w : World) : Prop := match v with
  | .tuple ⟨[]⟩ => R w
  | _ => False
theorem iplaw_World_OwnRows.RV_elim {R : World → Prop} {v : Value} {w : World} (h : iplaw_World_OwnRows.RV R v w) : Ending.returned v = .returned (.tuple #[]) ∧ R w := by
  unfold iplaw_World_OwnRows.RV at h
  split at h
  · exact ⟨rfl, h⟩
  · exact h.elim
/-- (*e2e/iplaw.World).OwnNums -/
def iplaw_World_OwnNums.Call (w0 a_b : Option Addr) (a_l a_c : Nat) (w : World) (R : World → Prop) : Prop :=
  Calls Try.prog 27 #[.pointer w0, .slice a_b a_l a_c] w fun e w' => e = .returned (.tuple #[]) ∧ R w'
theorem iplaw_World_OwnNums.Call.mono {w0 a_b a_l a_c} {w : World} {R R' : World → Prop} (h : iplaw_World_OwnNums.Call w0 a_b a_l a_c w R) (hr : ∀ w', R w' → R'  w') : iplaw_World_OwnNums.Call w0 a_b a_l a_c w R' :=
  Calls.mono h fun e w' he => by
    obtain ⟨h1, h2⟩ := he
    exact ⟨h1, hr  w' h2⟩
def iplaw_World_OwnNums.RV (R : World → Prop) (v : Value) (w : World) : Prop := match v with
  | .tuple ⟨[]⟩ => R w
  | _ => False
theorem iplaw_World_OwnNums.RV_elim {R : World → Prop} {v : Value} {w : World} (h : iplaw_World_OwnNums.RV R v w) : Ending.returned v = .returned (.tuple #[]) ∧ R w := by
  unfold iplaw_World_OwnNums.RV at h
  split at h
  · exact ⟨rfl, h⟩
  · exact h.elim
/-- (*e2e/ip.IP).Addr -/
def ip_IP_Addr.Call (p : Option Addr) (w : World) (R : Int → World → Prop) : Prop :=
  Calls Try.prog 28 #[.pointer p] w fun e w' => ∃ r, e = .returned (.int .i64 r) ∧ R r w'
theorem ip_IP_Addr.Call.mono {p} {w : World} {R R' : Int → World → Prop} (h : ip_IP_Addr.Call p w R) (hr : ∀ r w', R r w' → R' r w') : ip_IP_Addr.Call p w R' :=
  Calls.mono h fun e w' he => by
    obtain ⟨r, h1, h2⟩ := he
    exact ⟨r, h1, hr r w' h2⟩
def ip_IP_Addr.RV (R : Int → World → Prop) (v : Value) (w : World) : Prop := match v with
  | .int .i64 r => R r w
  | _ => False
theorem ip_IP_Addr.RV_elim {R : Int → World → Prop} {v : Value} {w : World} (h : ip_IP_Addr.RV R v w) : ∃ r, Ending.returned v = .returned (.int .i64 r) ∧ R r w := by
  unfold ip_IP_Addr.RV at h
  split at h
  · exact ⟨_, rfl, h⟩
  · exact h.elim
/-- (*e2e/ipm.IP).Addr -/
def ipm_IP_Addr.Call (p : Option Addr) (w : World) (R : Int → World → Prop) : Prop :=
  Calls Try.prog 29 #[.pointer p] w fun e w' => ∃ r, e = .returned (.int .i64 r) ∧ R r w'
theorem ipm_IP_Addr.Call.mono {p} {w : World} {R R' : Int → World → Prop} (h : ipm_IP_Addr.Call p w R) (hr : ∀ r w', R r w' → R' r w') : ipm_IP_Addr.Call p w R' :=
  Calls.mono h fun e w' he => by
    obtain ⟨r, h1, h2⟩ := he
    exact ⟨r, h1, hr r w' h2⟩
def ipm_IP_Addr.RV (R : Int → World → Prop) (v : Value) (w : World) : Prop := match v with
  | .int .i64 r => R r w
  | _ => False
theorem ipm_IP_Addr.RV_elim {R : Int → World → Prop} {v : Value} {w : World} (h : ipm_IP_Addr.RV R v w) : ∃ r, Ending.returned v = .returned (.int .i64 r) ∧ R r w := by
  unfold ipm_IP_Addr.RV at h
  split at h
  · exact ⟨_, rfl, h⟩
  · exact h.elim
/-- (*e2e/ip.IP).NextId -/
def ip_IP_NextId.Call (p : Option Addr) (w : World) (R : Int → World → Prop) : Prop :=
  Calls Try.prog 30 #[.pointer p] w fun e w' => ∃ r, e = .returned (.int .i64 r) ∧ R r w'
theorem ip_IP_NextId.Call.mono {p} {w : World} {R R' : Int → World → Prop} (h : ip_IP_NextId.Call p w R) (hr : ∀ r w', R r w' → R' r w') : ip_IP_NextId.Call p w R' :=
  Calls.mono h fun e w' he => by
    obtain ⟨r, h1, h2⟩ := he
    exact ⟨r, h1, hr r w' h2⟩
def ip_IP_NextId.RV (R : Int → World → Prop) (v : Value) (w : World) : Prop := match v with
  | .int .i64 r => R r w
  | _ => False
theorem ip_IP_NextId.RV_elim {R : Int → World → Prop} {v : Value} {w : World} (h : ip_IP_NextId.RV R v w) : ∃ r, Ending.returned v = .returned (.int .i64 r) ∧ R r w := by
  unfold ip_IP_NextId.RV at h
  split at h
  · exact ⟨_, rfl, h⟩
  · exact h.elim
/-- (*e2e/ipm.IP).NextId -/
def ipm_IP_NextId.Call (p : Option Addr) (w : World) (R : Int → World → Prop) : Prop :=
  Calls Try.prog 31 #[.pointer p] w fun e w' => ∃ r, e = .returned (.int .i64 r) ∧ R r w'
theorem ipm_IP_NextId.Call.mono {p} {w : World} {R R' : Int → World → Prop} (h : ipm_IP_NextId.Call p w R) (hr : ∀ r w', R r w' → R' r w') : ipm_IP_NextId.Call p w R' :=
  Calls.mono h fun e w' he => by
    obtain ⟨r, h1, h2⟩ := he
    exact ⟨r, h1, hr r w' h2⟩
def ipm_IP_NextId.RV (R : Int → World → Prop) (v : Value) (w : World) : Prop := match v with
  | .int .i64 r => R r w
  | _ => False
theorem ipm_IP_NextId.RV_elim {R : Int → World → Prop} {v : Value} {w : World} (h : ipm_IP_NextId.RV R v w) : ∃ r, Ending.returned v = .returned (.int .i64 r) ∧ R r w := by
  unfold ipm_IP_NextId.RV at h
  split at h
  · exact ⟨_, rfl, h⟩
  · exact h.elim
/-- (*e2e/ip.IP).Credit -/
def ip_IP_Credit.Call (p : Option Addr) (w : World) (R : Int → World → Prop) : Prop :=
  Calls Try.prog 32 #[.pointer p] w fun e w' => ∃ r, e = .returned (.int .i64 r) ∧ R r w'
theorem ip_IP_Credit.Call.mono {p} {w : World} {R R' : Int → World → Prop} (h : ip_IP_Credit.Call p w R) (hr : ∀ r w', R r w' → R' r w') : ip_IP_Credit.Call p w R' :=
  Calls.mono h fun e w' he => by
    obtain ⟨r, h1, h2⟩ := he
    exact ⟨r, h1, hr r w' h2⟩
def ip_IP_Credit.RV (R : Int → World → Prop) (v : Value) (w : World) : Prop := match v with
  | .int .i64 r => R r w
  | _ => False
theorem ip_IP_Credit.RV_elim {R : Int → World → Prop} {v : Value} {w : World} (h : ip_IP_Credit.RV R v w) : ∃ r, Ending.returned v = .returned (.int .i64 r) ∧ R r w := by
  unfold ip_IP_Credit.RV at h
  split at h
  · exact ⟨_, rfl, h⟩
  · exact h.elim
/-- (*e2e/ipm.IP).Credit -/
def ipm_IP_Credit.Call (p : Option Addr) (w : World) (R : Int → World → Prop) : Prop :=
  Calls Try.prog 33 #[.pointer p] w fun e w' => ∃ r, e = .returned (.int .i64 r) ∧ R r w'
theorem ipm_IP_Credit.Call.mono {p} {w : World} {R R' : Int → World → Prop} (h : ipm_IP_Credit.Call p w R) (hr : ∀ r w', R r w' → R' r w') : ipm_IP_Credit.Call p w R' :=
  Calls.mono h fun e w' he => by
    obtain ⟨r, h1, h2⟩ := he
    exact ⟨r, h1, hr r w' h2⟩
def ipm_IP_Credit.RV (R : Int → World → Prop) (v : Value) (w : World) : Prop := match v with
  | .int .i64 r => R r w
  | _ => False
theorem ipm_IP_Credit.RV_elim {R : Int → World → Prop} {v : Value} {w : World} (h : ipm_IP_Credit.RV R v w) : ∃ r, Ending.returned v = .returned (.int .i64 r) ∧ R r w := by
  unfold ipm_IP_Credit.RV at h
  split at h
  · exact ⟨_, rfl, h⟩
  · exact h.elim
/-- (*e2e/ip.IP).Pending -/
def ip_IP_Pending.Call (p : Option Addr) (w : World) (R : Option Addr → Nat → Nat → World → Prop) : Prop :=
  Calls Try.prog 34 #[.pointer p] w fun e w' => ∃ r_b r_l r_c, e = .returned (.slice r_b r_l r_c) ∧ R r_b r_l r_c w'
theorem ip_IP_Pending.Call.mono {p} {w : World} {R R' : Option Addr → Nat → Nat → World → Prop} (h : ip_IP_Pending.Call p w R) (hr : ∀ r_b r_l r_c w', R r_b r_l r_c w' → R' r_b r_l r_c w') : ip_IP_Pending.Call p w R' :=
  Calls.mono h fun e w' he => by
    obtain ⟨r_b, r_l, r_c, h1, h2⟩ := he
    exact ⟨r_b, r_l, r_c, h1, hr r_b r_l r_c w' h2⟩
def ip_IP_Pending.RV (R : Option Addr → Nat → Nat → World → Prop) (v : Value) (w : World) : Prop := match v with
  | .slice r_b r_l r_c => R r_b r_l r_c w
  | _ => False
theorem ip_IP_Pending.RV_elim {R : Option Addr → Nat → Nat → World → Prop} {v : Value} {w : World} (h : ip_IP_Pending.RV R v w) : ∃ r_b r_l r_c, Ending.returned v = .returned (.slice r_b r_l r_c) ∧ R r_b r_l r_c w := by
  unfold ip_IP_Pending.RV at h
  split at h
  · exact ⟨_, _, _, rfl, h⟩
  · exact h.elim
/-- (*e2e/ipm.IP).Pending -/
def ipm_IP_Pending.Call (p : Option Addr) (w : World) (R : Option Addr → Nat → Nat → World → Prop) : Prop :=
  Calls Try.prog 35 #[.pointer p] w fun e w' => ∃ r_b r_l r_c, e = .returned (.slice r_b r_l r_c) ∧ R r_b r_l r_c w'
theorem ipm_IP_Pending.Call.mono {p} {w : World} {R R' : Option Addr → Nat → Nat → World → Prop} (h : ipm_IP_Pending.Call p w R) (hr : ∀ r_b r_l r_c w', R r_b r_l r_c w' → R' r_b r_l r_c w') : ipm_IP_Pending.Call p w R' :=
  Calls.mono h fun e w' he => by
    obtain ⟨r_b, r_l, r_c, h1, h2⟩ := he
    exact ⟨r_b, r_l, r_c, h1, hr r_b r_l r_c w' h2⟩
def ipm_IP_Pending.RV (R : Option Addr → Nat → Nat → World → Prop) (v : Value) (w : World) : Prop := match v with
  | .slice r_b r_l r_c => R r_b r_l r_c w
  | _ => False
theorem ipm_IP_Pending.RV_elim {R : Option Addr → Nat → Nat → World → Prop} {v : Value} {w : World} (h : ipm_IP_Pending.RV R v w) : ∃ r_b r_l r_c, Ending.returned v = .returned (.slice r_b r_l r_c) ∧ R r_b r_l r_c w := by
  unfold ipm_IP_Pending.RV at h
  split at h
  · exact ⟨_, _, _, rfl, h⟩
  · exact h.elim
/-- (*e2e/ip.IP).Peek -/
def ip_IP_Peek.Call (p : Option Addr) (j : Int) (w : World) (R : Option Addr → Nat → Nat → World → Prop) : Prop :=
  Calls Try.prog 36 #[.pointer p, .int .i64 j] w fun e w' => ∃ r_b r_l r_c, e = .returned (.slice r_b r_l r_c) ∧ R r_b r_l r_c w'
theorem ip_IP_Peek.Call.mono {p j} {w : World} {R R' : Option Addr → Nat → Nat → World → Prop} (h : ip_IP_Peek.Call p j w R) (hr : ∀ r_b r_l r_c w', R r_b r_l r_c w' → R' r_b r_l r_c w') : ip_IP_Peek.Call p j w R' :=
  Calls.mono h fun e w' he => by
    obtain ⟨r_b, r_l, r_c, h1, h2⟩ := he
    exact ⟨r_b, r_l, r_c, h1, hr r_b r_l r_c w' h2⟩
def ip_IP_Peek.RV (R : Option Addr → Nat → Nat → World → Prop) (v : Value) (w : World) : Prop := match v with
  | .slice r_b r_l r_c => R r_b r_l r_c w
  | _ => False
theorem ip_IP_Peek.RV_elim {R : Option Addr → Nat → Nat → World → Prop} {v : Value} {w : World} (h : ip_IP_Peek.RV R v w) : ∃ r_b r_l r_c, Ending.returned v = .returned (.slice r_b r_l r_c) ∧ R r_b r_l r_c w := by
  unfold ip_IP_Peek.RV at h
  split at h
  · exact ⟨_, _, _, rfl, h⟩
  · exact h.elim
/-- (*e2e/ipm.IP).Peek -/
def ipm_IP_Peek.Call (p : Option Addr) (i : Int) (w : World) (R : Option Addr → Nat → Nat → World → Prop) : Prop :=
  Calls Try.prog 37 #[.pointer p, .int .i64 i] w fun e w' => ∃ r_b r_l r_c, e = .returned (.slice r_b r_l r_c) ∧ R r_b r_l r_c w'
theorem ipm_IP_Peek.Call.mono {p i} {w : World} {R R' : Option Addr → Nat → Nat → World → Prop} (h : ipm_IP_Peek.Call p i w R) (hr : ∀ r_b r_l r_c w', R r_b r_l r_c w' → R' r_b r_l r_c w') : ipm_IP_Peek.Call p i w R' :=
  Calls.mono h fun e w' he => by
    obtain ⟨r_b, r_l, r_c, h1, h2⟩ := he
    exact ⟨r_b, r_l, r_c, h1, hr r_b r_l r_c w' h2⟩
def ipm_IP_Peek.RV (R : Option Addr → Nat → Nat → World → Prop) (v : Value) (w : World) : Prop := match v with
  | .slice r_b r_l r_c => R r_b r_l r_c w
  | _ => False
theorem ipm_IP_Peek.RV_elim {R : Option Addr → Nat → Nat → World → Prop} {v : Value} {w : World} (h : ipm_IP_Peek.RV R v w) : ∃ r_b r_l r_c, Ending.returned v = .returned (.slice r_b r_l r_c) ∧ R r_b r_l r_c w := by
  unfold ipm_IP_Peek.RV at h
  split at h
  · exact ⟨_, _, _, rfl, h⟩
  · exact h.elim
/-- (*e2e/ip.IP).checkSlot -/
def ip_IP_checkSlot.Call (p : Option Addr) (i : Int) (w : World) (R : Bool → World → Prop) : Prop :=
  Calls Try.prog 38 #[.pointer p, .int .i64 i] w fun e w' => ∃ r, e = .returned (.bool r) ∧ R r w'
theorem ip_IP_checkSlot.Call.mono {p i} {w : World} {R R' : Bool → World → Prop} (h : ip_IP_checkSlot.Call p i w R) (hr : ∀ r w', R r w' → R' r w') : ip_IP_checkSlot.Call p i w R' :=
  Calls.mono h fun e w' he => by
    obtain ⟨r, h1, h2⟩ := he
    exact ⟨r, h1, hr r w' h2⟩
def ip_IP_checkSlot.RV (R : Bool → World → Prop) (v : Value) (w : World) : Prop := match v with
  | .bool r => R r w
  | _ => False
theorem ip_IP_checkSlot.RV_elim {R : Bool → World → Prop} {v : Value} {w : World} (h : ip_IP_checkSlot.RV R v w) : ∃ r, Ending.returned v = .returned (.bool r) ∧ R r w := by
  unfold ip_IP_checkSlot.RV at h
  split at h
  · exact ⟨_, rfl, h⟩
  · exact h.elim
/-- (*e2e/ip.IP).Output -/
def ip_IP_Output.Call (p : Option Addr) (dst proto : Int) (data_b : Option Addr) (data_l data_c : Nat) (w : World) (R : Option Addr → Nat → Nat → Int → World → Prop) : Prop :=
  Calls Try.prog 39 #[.pointer p, .int .i64 dst, .int .i64 proto, .slice data_b data_l data_c] w fun e w' => ∃ r0_b r0_l r0_c r1, e = .returned (.tuple #[.slice r0_b r0_l r0_c, .int .i64 r1]) ∧ R r0_b r0_l r0_c r1 w'
theorem ip_IP_Output.Call.mono {p dst proto data_b data_l data_c} {w : World} {R R' : Option Addr → Nat → Nat → Int → World → Prop} (h : ip_IP_Output.Call p dst proto data_b data_l data_c w R) (hr : ∀ r0_b r0_l r0_c r1 w', R r0_b r0_l r0_c r1 w' → R' r0_b r0_l r0_c r1 w') : ip_IP_Output.Call p dst proto data_b data_l data_c w R' :=
  Calls.mono h fun e w' he => by
    obtain ⟨r0_b, r0_l, r0_c, r1, h1, h2⟩ := he
    exact ⟨r0_b, r0_l, r0_c, r1, h1, hr r0_b r0_l r0_c r1 w' h2⟩
def ip_IP_Output.RV (R : Option Addr → Nat → Nat → Int → World → Prop) (v : Value) (w : World) : Prop := match v with
  | .tuple ⟨[.slice r0_b r0_l r0_c, .int .i64 r1]⟩ => R r0_b r0_l r0_c r1 w
  | _ => False
theorem ip_IP_Output.RV_elim {R : Option Addr → Nat → Nat → Int → World → Prop} {v : Value} {w : World} (h : ip_IP_Output.RV R v w) : ∃ r0_b r0_l r0_c r1, Ending.returned v = .returned (.tuple #[.slice r0_b r0_l r0_c, .int .i64 r1]) ∧ R r0_b r0_l r0_c r1 w := by
  unfold ip_IP_Output.RV at h
  split at h
  · exact ⟨_, _, _, _, rfl, h⟩
  · exact h.elim
/-- (*e2e/ipm.IP).Output -/
def ipm_IP_Output.Call (p : Option Addr) (dst proto : Int) (data_b : Option Addr) (data_l data_c : Nat) (w : World) (R : Option Addr → Nat → Nat → Int → World → Prop) : Prop :=
  Calls Try.prog 40 #[.pointer p, .int .i64 dst, .int .i64 proto, .slice data_b data_l data_c] w fun e w' => ∃ r0_b r0_l r0_c r1, e = .returned (.tuple #[.slice r0_b r0_l r0_c, .int .i64 r1]) ∧ R r0_b r0_l r0_c r1 w'
theorem ipm_IP_Output.Call.mono {p dst proto data_b data_l data_c} {w : World} {R R' : Option Addr → Nat → Nat → Int → World → Prop} (h : ipm_IP_Output.Call p dst proto data_b data_l data_c w R) (hr : ∀ r0_b r0_l r0_c r1 w', R r0_b r0_l r0_c r1 w' → R' r0_b r0_l r0_c r1 w') : ipm_IP_Output.Call p dst proto data_b data_l data_c w R' :=
  Calls.mono h fun e w' he => by
    obtain ⟨r0_b, r0_l, r0_c, r1, h1, h2⟩ := he
    exact ⟨r0_b, r0_l, r0_c, r1, h1, hr r0_b r0_l r0_c r1 w' h2⟩
def ipm_IP_Output.RV (R : Option Addr → Nat → Nat → Int → World → Prop) (v : Value) (w : World) : Prop := match v with
  | .tuple ⟨[.slice r0_b r0_l r0_c, .int .i64 r1]⟩ => R r0_b r0_l r0_c r1 w
  | _ => False
theorem ipm_IP_Output.RV_elim {R : Option Addr → Nat → Nat → Int → World → Prop} {v : Value} {w : World} (h : ipm_IP_Output.RV R v w) : ∃ r0_b r0_l r0_c r1, Ending.returned v = .returned (.tuple #[.slice r0_b r0_l r0_c, .int .i64 r1]) ∧ R r0_b r0_l r0_c r1 w := by
  unfold ipm_IP_Output.RV at h
  split at h
  · exact ⟨_, _, _, _, rfl, h⟩
  · exact h.elim
/-- (*e2e/iplaw.World).Own -/
def iplaw_World_Own.Call (w0 a_b : Option Addr) (a_l a_c : Nat) (w : World) (R : World → Prop) : Prop :=
  Calls Try.prog 41 #[.pointer w0, .slice a_b a_l a_c] w fun e w' => e = .returned (.tuple #[]) ∧ R w'
theorem iplaw_World_Own.Call.mono {w0 a_b a_l a_c} {w : World} {R R' : World → Prop} (h : iplaw_World_Own.Call w0 a_b a_l a_c w R) (hr : ∀ w', R w' → R'  w') : iplaw_World_Own.Call w0 a_b a_l a_c w R' :=
  Calls.mono h fun e w' he => by
    obtain ⟨h1, h2⟩ := he
    exact ⟨h1, hr  w' h2⟩
def iplaw_World_Own.RV (R : World → Prop) (v : Value) (w : World) : Prop := match v with
  | .tuple ⟨[]⟩ => R w
  | _ => False
theorem iplaw_World_Own.RV_elim {R : World → Prop} {v : Value} {w : World} (h : iplaw_World_Own.RV R v w) : Ending.returned v = .returned (.tuple #[]) ∧ R w := by
  unfold iplaw_World_Own.RV at h
  split at h
  · exact ⟨rfl, h⟩
  · exact h.elim
/-- (*e2e/iplaw.World).OwnOut -/
def iplaw_World_OwnOut.Call (w0 a_b : Option Addr) (a_l a_c : Nat) (w : World) (R : World → Prop) : Prop :=
  Calls Try.prog 42 #[.pointer w0, .slice a_b a_l a_c] w fun e w' => e = .returned (.tuple #[]) ∧ R w'
theorem iplaw_World_OwnOut.Call.mono {w0 a_b a_l a_c} {w : World} {R R' : World → Prop} (h : iplaw_World_OwnOut.Call w0 a_b a_l a_c w R) (hr : ∀ w', R w' → R'  w') : iplaw_World_OwnOut.Call w0 a_b a_l a_c w R' :=
  Calls.mono h fun e w' he => by
    obtain ⟨h1, h2⟩ := he
    exact ⟨h1, hr  w' h2⟩
def iplaw_World_OwnOut.RV (R : World → Prop) (v : Value) (w : World) : Prop := match v with
  | .tuple ⟨[]⟩ => R w
  | _ => False
theorem iplaw_World_OwnOut.RV_elim {R : World → Prop} {v : Value} {w : World} (h : iplaw_World_OwnOut.RV R v w) : Ending.returned v = .returned (.tuple #[]) ∧ R w := by
  unfold iplaw_World_OwnOut.RV at h
  split at h
  · exact ⟨rfl, h⟩
  · exact h.elim
/-- (*e2e/ip.IP).Input -/
def ip_IP_Input.Call (p pkt_b : Option Addr) (pkt_l pkt_c : Nat) (w : World) (R : Int → Int → Int → Option Addr → Nat → Nat → Int → World → Prop) : Prop :=
  Calls Try.prog 43 #[.pointer p, .slice pkt_b pkt_l pkt_c] w fun e w' => ∃ r0_0 r0_1 r0_2 r0_3_b r0_3_l r0_3_c r1, e = .returned (.tuple #[.agg #[.int .i64 r0_0, .int .i64 r0_1, .int .i64 r0_2, .slice r0_3_b r0_3_l r0_3_c], .int .i64 r1]) ∧ R r0_0 r0_1 r0_2 r0_3_b r0_3_l r0_3_c r1 w'
theorem ip_IP_Input.Call.mono {p pkt_b pkt_l pkt_c} {w : World} {R R' : Int → Int → Int → Option Addr → Nat → Nat → Int → World → Prop} (h : ip_IP_Input.Call p pkt_b pkt_l pkt_c w R) (hr : ∀ r0_0 r0_1 r0_2 r0_3_b r0_3_l r0_3_c r1 w', R r0_0 r0_1 r0_2 r0_3_b r0_3_l r0_3_c r1 w' → R' r0_0 r0_1 r0_2 r0_3_b r0_3_l r0_3_c r1 w') : ip_IP_Input.Call p pkt_b pkt_l pkt_c w R' :=
  Calls.mono h fun e w' he => by
    obtain ⟨r0_0, r0_1, r0_2, r0_3_b, r0_3_l, r0_3_c, r1, h1, h2⟩ := he
    exact ⟨r0_0, r0_1, r0_2, r0_3_b, r0_3_l, r0_3_c, r1, h1, hr r0_0 r0_1 r0_2 r0_3_b r0_3_l r0_3_c r1 w' h2⟩
def ip_IP_Input.RV (R : Int → Int → Int → Option Addr → Nat → Nat → Int → World → Prop) (v : Value) (w : World) : Prop := match v with
  | .tuple ⟨[.agg ⟨[.int .i64 r0_0, .int .i64 r0_1, .int .i64 r0_2, .slice r0_3_b r0_3_l r0_3_c]⟩, .int .i64 r1]⟩ => R r0_0 r0_1 r0_2 r0_3_b r0_3_l r0_3_c r1 w
  | _ => False
theorem ip_IP_Input.RV_elim {R : Int → Int → Int → Option Addr → Nat → Nat → Int → World → Prop} {v : Value} {w : World} (h : ip_IP_Input.RV R v w) : ∃ r0_0 r0_1 r0_2 r0_3_b r0_3_l r0_3_c r1, Ending.returned v = .returned (.tuple #[.agg #[.int .i64 r0_0, .int .i64 r0_1, .int .i64 r0_2, .slice r0_3_b r0_3_l r0_3_c], .int .i64 r1]) ∧ R r0_0 r0_1 r0_2 r0_3_b r0_3_l r0_3_c r1 w := by
  unfold ip_IP_Input.RV at h
  split at h
  · exact ⟨_, _, _, _, _, _, _, rfl, h⟩
  · exact h.elim
/-- (*e2e/ipm.IP).Input -/
def ipm_IP_Input.Call (p pkt_b : Option Addr) (pkt_l pkt_c : Nat) (w : World) (R : Int → Int → Int → Option Addr → Nat → Nat → Int → World → Prop) : Prop :=
  Calls Try.prog 44 #[.pointer p, .slice pkt_b pkt_l pkt_c] w fun e w' => ∃ r0_0 r0_1 r0_2 r0_3_b r0_3_l r0_3_c r1, e = .returned (.tuple #[.agg #[.int .i64 r0_0, .int .i64 r0_1, .int .i64 r0_2, .slice r0_3_b r0_3_l r0_3_c], .int .i64 r1]) ∧ R r0_0 r0_1 r0_2 r0_3_b r0_3_l r0_3_c r1 w'
theorem ipm_IP_Input.Call.mono {p pkt_b pkt_l pkt_c} {w : World} {R R' : Int → Int → Int → Option Addr → Nat → Nat → Int → World → Prop} (h : ipm_IP_Input.Call p pkt_b pkt_l pkt_c w R) (hr : ∀ r0_0 r0_1 r0_2 r0_3_b r0_3_l r0_3_c r1 w', R r0_0 r0_1 r0_2 r0_3_b r0_3_l r0_3_c r1 w' → R' r0_0 r0_1 r0_2 r0_3_b r0_3_l r0_3_c r1 w') : ipm_IP_Input.Call p pkt_b pkt_l pkt_c w R' :=
  Calls.mono h fun e w' he => by
    obtain ⟨r0_0, r0_1, r0_2, r0_3_b, r0_3_l, r0_3_c, r1, h1, h2⟩ := he
    exact ⟨r0_0, r0_1, r0_2, r0_3_b, r0_3_l, r0_3_c, r1, h1, hr r0_0 r0_1 r0_2 r0_3_b r0_3_l r0_3_c r1 w' h2⟩
def ipm_IP_Input.RV (R : Int → Int → Int → Option Addr → Nat → Nat → Int → World → Prop) (v : Value) (w : World) : Prop := match v with
  | .tuple ⟨[.agg ⟨[.int .i64 r0_0, .int .i64 r0_1, .int .i64 r0_2, .slice r0_3_b r0_3_l r0_3_c]⟩, .int .i64 r1]⟩ => R r0_0 r0_1 r0_2 r0_3_b r0_3_l r0_3_c r1 w
  | _ => False
theorem ipm_IP_Input.RV_elim {R : Int → Int → Int → Option Addr → Nat → Nat → Int → World → Prop} {v : Value} {w : World} (h : ipm_IP_Input.RV R v w) : ∃ r0_0 r0_1 r0_2 r0_3_b r0_3_l r0_3_c r1, Ending.returned v = .returned (.tuple #[.agg #[.int .i64 r0_0, .int .i64 r0_1, .int .i64 r0_2, .slice r0_3_b r0_3_l r0_3_c], .int .i64 r1]) ∧ R r0_0 r0_1 r0_2 r0_3_b r0_3_l r0_3_c r1 w := by
  unfold ipm_IP_Input.RV at h
  split at h
  · exact ⟨_, _, _, _, _, _, _, rfl, h⟩
  · exact h.elim
/-- (*e2e/ipm.IP).remove -/
def ipm_IP_remove.Call (p : Option Addr) (i : Int) (w : World) (R : World → Prop) : Prop :=
  Calls Try.prog 45 #[.pointer p, .int .i64 i] w fun e w' => e = .returned (.tuple #[]) ∧ R w'
theorem ipm_IP_remove.Call.mono {p i} {w : World} {R R' : World → Prop} (h : ipm_IP_remove.Call p i w R) (hr : ∀ w', R w' → R'  w') : ipm_IP_remove.Call p i w R' :=
  Calls.mono h fun e w' he => by
    obtain ⟨h1, h2⟩ := he
    exact ⟨h1, hr  w' h2⟩
def ipm_IP_remove.RV (R : World → Prop) (v : Value) (w : World) : Prop := match v with
  | .tuple ⟨[]⟩ => R w
  | _ => False
theorem ipm_IP_remove.RV_elim {R : World → Prop} {v : Value} {w : World} (h : ipm_IP_remove.RV R v w) : Ending.returned v = .returned (.tuple #[]) ∧ R w := by
  unfold ipm_IP_remove.RV at h
  split at h
  · exact ⟨rfl, h⟩
  · exact h.elim
/-- (*e2e/ip.IP).sorted -/
def ip_IP_sorted.Call (p : Option Addr) (w : World) (R : Int → Int → Int → Int → World → Prop) : Prop :=
  Calls Try.prog 46 #[.pointer p] w fun e w' => ∃ r_0 r_1 r_2 r_3, e = .returned (.agg #[.int .i64 r_0, .int .i64 r_1, .int .i64 r_2, .int .i64 r_3]) ∧ R r_0 r_1 r_2 r_3 w'
theorem ip_IP_sorted.Call.mono {p} {w : World} {R R' : Int → Int → Int → Int → World → Prop} (h : ip_IP_sorted.Call p w R) (hr : ∀ r_0 r_1 r_2 r_3 w', R r_0 r_1 r_2 r_3 w' → R' r_0 r_1 r_2 r_3 w') : ip_IP_sorted.Call p w R' :=
  Calls.mono h fun e w' he => by
    obtain ⟨r_0, r_1, r_2, r_3, h1, h2⟩ := he
    exact ⟨r_0, r_1, r_2, r_3, h1, hr r_0 r_1 r_2 r_3 w' h2⟩
def ip_IP_sorted.RV (R : Int → Int → Int → Int → World → Prop) (v : Value) (w : World) : Prop := match v with
  | .agg ⟨[.int .i64 r_0, .int .i64 r_1, .int .i64 r_2, .int .i64 r_3]⟩ => R r_0 r_1 r_2 r_3 w
  | _ => False
theorem ip_IP_sorted.RV_elim {R : Int → Int → Int → Int → World → Prop} {v : Value} {w : World} (h : ip_IP_sorted.RV R v w) : ∃ r_0 r_1 r_2 r_3, Ending.returned v = .returned (.agg #[.int .i64 r_0, .int .i64 r_1, .int .i64 r_2, .int .i64 r_3]) ∧ R r_0 r_1 r_2 r_3 w := by
  unfold ip_IP_sorted.RV at h
  split at h
  · exact ⟨_, _, _, _, rfl, h⟩
  · exact h.elim
/-- e2e/ip.count -/
def ip_count.Call (held : Int) (w : World) (R : Int → World → Prop) : Prop :=
  Calls Try.prog 47 #[.int .u64 held] w fun e w' => ∃ r, e = .returned (.int .i64 r) ∧ R r w'
theorem ip_count.Call.mono {held} {w : World} {R R' : Int → World → Prop} (h : ip_count.Call held w R) (hr : ∀ r w', R r w' → R' r w') : ip_count.Call held w R' :=
  Calls.mono h fun e w' he => by
    obtain ⟨r, h1, h2⟩ := he
    exact ⟨r, h1, hr r w' h2⟩
def ip_count.RV (R : Int → World → Prop) (v : Value) (w : World) : Prop := match v with
  | .int .i64 r => R r w
  | _ => False
theorem ip_count.RV_elim {R : Int → World → Prop} {v : Value} {w : World} (h : ip_count.RV R v w) : ∃ r, Ending.returned v = .returned (.int .i64 r) ∧ R r w := by
  unfold ip_count.RV at h
  split at h
  · exact ⟨_, rfl, h⟩
  · exact h.elim
/-- (*e2e/ipm.IP).have -/
def ipm_IP_have.Call (p : Option Addr) (i : Int) (w : World) (R : Int → World → Prop) : Prop :=
  Calls Try.prog 48 #[.pointer p, .int .i64 i] w fun e w' => ∃ r, e = .returned (.int .i64 r) ∧ R r w'
theorem ipm_IP_have.Call.mono {p i} {w : World} {R R' : Int → World → Prop} (h : ipm_IP_have.Call p i w R) (hr : ∀ r w', R r w' → R' r w') : ipm_IP_have.Call p i w R' :=
  Calls.mono h fun e w' he => by
    obtain ⟨r, h1, h2⟩ := he
    exact ⟨r, h1, hr r w' h2⟩
def ipm_IP_have.RV (R : Int → World → Prop) (v : Value) (w : World) : Prop := match v with
  | .int .i64 r => R r w
  | _ => False
theorem ipm_IP_have.RV_elim {R : Int → World → Prop} {v : Value} {w : World} (h : ipm_IP_have.RV R v w) : ∃ r, Ending.returned v = .returned (.int .i64 r) ∧ R r w := by
  unfold ipm_IP_have.RV at h
  split at h
  · exact ⟨_, rfl, h⟩
  · exact h.elim
/-- e2e/ip.below -/
def ip_below.Call (n : Int) (w : World) (R : Int → World → Prop) : Prop :=
  Calls Try.prog 49 #[.int .i64 n] w fun e w' => ∃ r, e = .returned (.int .u64 r) ∧ R r w'
theorem ip_below.Call.mono {n} {w : World} {R R' : Int → World → Prop} (h : ip_below.Call n w R) (hr : ∀ r w', R r w' → R' r w') : ip_below.Call n w R' :=
  Calls.mono h fun e w' he => by
    obtain ⟨r, h1, h2⟩ := he
    exact ⟨r, h1, hr r w' h2⟩
def ip_below.RV (R : Int → World → Prop) (v : Value) (w : World) : Prop := match v with
  | .int .u64 r => R r w
  | _ => False
theorem ip_below.RV_elim {R : Int → World → Prop} {v : Value} {w : World} (h : ip_below.RV R v w) : ∃ r, Ending.returned v = .returned (.int .u64 r) ∧ R r w := by
  unfold ip_below.RV at h
  split at h
  · exact ⟨_, rfl, h⟩
  · exact h.elim
/-- e2e/ip.packet -/
def ip_packet.Call (proto src dst id0 offmore : Int) (payload_b : Option Addr) (payload_l payload_c : Nat) (w : World) (R : Option Addr → Nat → Nat → World → Prop) : Prop :=
  Calls Try.prog 50 #[.int .i64 proto, .int .i64 src, .int .i64 dst, .int .i64 id0, .int .i64 offmore, .slice payload_b payload_l payload_c] w fun e w' => ∃ r_b r_l r_c, e = .returned (.slice r_b r_l r_c) ∧ R r_b r_l r_c w'
theorem ip_packet.Call.mono {proto src dst id0 offmore payload_b payload_l payload_c} {w : World} {R R' : Option Addr → Nat → Nat → World → Prop} (h : ip_packet.Call proto src dst id0 offmore payload_b payload_l payload_c w R) (hr : ∀ r_b r_l r_c w', R r_b r_l r_c w' → R' r_b r_l r_c w') : ip_packet.Call proto src dst id0 offmore payload_b payload_l payload_c w R' :=
  Calls.mono h fun e w' he => by
    obtain ⟨r_b, r_l, r_c, h1, h2⟩ := he
    exact ⟨r_b, r_l, r_c, h1, hr r_b r_l r_c w' h2⟩
def ip_packet.RV (R : Option Addr → Nat → Nat → World → Prop) (v : Value) (w : World) : Prop := match v with
  | .slice r_b r_l r_c => R r_b r_l r_c w
  | _ => False
theorem ip_packet.RV_elim {R : Option Addr → Nat → Nat → World → Prop} {v : Value} {w : World} (h : ip_packet.RV R v w) : ∃ r_b r_l r_c, Ending.returned v = .returned (.slice r_b r_l r_c) ∧ R r_b r_l r_c w := by
  unfold ip_packet.RV at h
  split at h
  · exact ⟨_, _, _, rfl, h⟩
  · exact h.elim
/-- e2e/ipm.headSum -/
def ipm_headSum.Call (h0_b : Option Addr) (h0_l h0_c : Nat) (w : World) (R : Int → World → Prop) : Prop :=
  Calls Try.prog 51 #[.slice h0_b h0_l h0_c] w fun e w' => ∃ r, e = .returned (.int .i64 r) ∧ R r w'
theorem ipm_headSum.Call.mono {h0_b h0_l h0_c} {w : World} {R R' : Int → World → Prop} (h : ipm_headSum.Call h0_b h0_l h0_c w R) (hr : ∀ r w', R r w' → R' r w') : ipm_headSum.Call h0_b h0_l h0_c w R' :=
  Calls.mono h fun e w' he => by
    obtain ⟨r, h1, h2⟩ := he
    exact ⟨r, h1, hr r w' h2⟩
def ipm_headSum.RV (R : Int → World → Prop) (v : Value) (w : World) : Prop := match v with
  | .int .i64 r => R r w
  | _ => False
theorem ipm_headSum.RV_elim {R : Int → World → Prop} {v : Value} {w : World} (h : ipm_headSum.RV R v w) : ∃ r, Ending.returned v = .returned (.int .i64 r) ∧ R r w := by
  unfold ipm_headSum.RV at h
  split at h
  · exact ⟨_, rfl, h⟩
  · exact h.elim
/-- e2e/ip.sumOf -/
def ip_sumOf.Call (b_b : Option Addr) (b_l b_c : Nat) (w : World) (R : Int → World → Prop) : Prop :=
  Calls Try.prog 52 #[.slice b_b b_l b_c] w fun e w' => ∃ r, e = .returned (.int .u8 r) ∧ R r w'
theorem ip_sumOf.Call.mono {b_b b_l b_c} {w : World} {R R' : Int → World → Prop} (h : ip_sumOf.Call b_b b_l b_c w R) (hr : ∀ r w', R r w' → R' r w') : ip_sumOf.Call b_b b_l b_c w R' :=
  Calls.mono h fun e w' he => by
    obtain ⟨r, h1, h2⟩ := he
    exact ⟨r, h1, hr r w' h2⟩
def ip_sumOf.RV (R : Int → World → Prop) (v : Value) (w : World) : Prop := match v with
  | .int .u8 r => R r w
  | _ => False
theorem ip_sumOf.RV_elim {R : Int → World → Prop} {v : Value} {w : World} (h : ip_sumOf.RV R v w) : ∃ r, Ending.returned v = .returned (.int .u8 r) ∧ R r w := by
  unfold ip_sumOf.RV at h
  split at h
  · exact ⟨_, rfl, h⟩
  · exact h.elim
/-- e2e/api.CopyBytes -/
def api_CopyBytes.Call (b_b : Option Addr) (b_l b_c : Nat) (w : World) (R : Option Addr → Nat → Nat → World → Prop) : Prop :=
  Calls Try.prog 53 #[.slice b_b b_l b_c] w fun e w' => ∃ r_b r_l r_c, e = .returned (.slice r_b r_l r_c) ∧ R r_b r_l r_c w'
theorem api_CopyBytes.Call.mono {b_b b_l b_c} {w : World} {R R' : Option Addr → Nat → Nat → World → Prop} (h : api_CopyBytes.Call b_b b_l b_c w R) (hr : ∀ r_b r_l r_c w', R r_b r_l r_c w' → R' r_b r_l r_c w') : api_CopyBytes.Call b_b b_l b_c w R' :=
  Calls.mono h fun e w' he => by
    obtain ⟨r_b, r_l, r_c, h1, h2⟩ := he
    exact ⟨r_b, r_l, r_c, h1, hr r_b r_l r_c w' h2⟩
def api_CopyBytes.RV (R : Option Addr → Nat → Nat → World → Prop) (v : Value) (w : World) : Prop := match v with
  | .slice r_b r_l r_c => R r_b r_l r_c w
  | _ => False
theorem api_CopyBytes.RV_elim {R : Option Addr → Nat → Nat → World → Prop} {v : Value} {w : World} (h : api_CopyBytes.RV R v w) : ∃ r_b r_l r_c, Ending.returned v = .returned (.slice r_b r_l r_c) ∧ R r_b r_l r_c w := by
  unfold api_CopyBytes.RV at h
  split at h
  · exact ⟨_, _, _, rfl, h⟩
  · exact h.elim
/-- e2e/ip.keyOf -/
def ip_keyOf.Call (src proto id0 : Int) (w : World) (R : Int → World → Prop) : Prop :=
  Calls Try.prog 54 #[.int .i64 src, .int .i64 proto, .int .i64 id0] w fun e w' => ∃ r, e = .returned (.int .i64 r) ∧ R r w'
theorem ip_keyOf.Call.mono {src proto id0} {w : World} {R R' : Int → World → Prop} (h : ip_keyOf.Call src proto id0 w R) (hr : ∀ r w', R r w' → R' r w') : ip_keyOf.Call src proto id0 w R' :=
  Calls.mono h fun e w' he => by
    obtain ⟨r, h1, h2⟩ := he
    exact ⟨r, h1, hr r w' h2⟩
def ip_keyOf.RV (R : Int → World → Prop) (v : Value) (w : World) : Prop := match v with
  | .int .i64 r => R r w
  | _ => False
theorem ip_keyOf.RV_elim {R : Int → World → Prop} {v : Value} {w : World} (h : ip_keyOf.RV R v w) : ∃ r, Ending.returned v = .returned (.int .i64 r) ∧ R r w := by
  unfold ip_keyOf.RV at h
  split at h
  · exact ⟨_, rfl, h⟩
  · exact h.elim
/-- (*e2e/ip.IP).find -/
def ip_IP_find.Call (p : Option Addr) (key : Int) (w : World) (R : Int → World → Prop) : Prop :=
  Calls Try.prog 55 #[.pointer p, .int .i64 key] w fun e w' => ∃ r, e = .returned (.int .i64 r) ∧ R r w'
theorem ip_IP_find.Call.mono {p key} {w : World} {R R' : Int → World → Prop} (h : ip_IP_find.Call p key w R) (hr : ∀ r w', R r w' → R' r w') : ip_IP_find.Call p key w R' :=
  Calls.mono h fun e w' he => by
    obtain ⟨r, h1, h2⟩ := he
    exact ⟨r, h1, hr r w' h2⟩
def ip_IP_find.RV (R : Int → World → Prop) (v : Value) (w : World) : Prop := match v with
  | .int .i64 r => R r w
  | _ => False
theorem ip_IP_find.RV_elim {R : Int → World → Prop} {v : Value} {w : World} (h : ip_IP_find.RV R v w) : ∃ r, Ending.returned v = .returned (.int .i64 r) ∧ R r w := by
  unfold ip_IP_find.RV at h
  split at h
  · exact ⟨_, rfl, h⟩
  · exact h.elim
/-- (*e2e/ip.IP).vacant -/
def ip_IP_vacant.Call (p : Option Addr) (w : World) (R : Int → World → Prop) : Prop :=
  Calls Try.prog 56 #[.pointer p] w fun e w' => ∃ r, e = .returned (.int .i64 r) ∧ R r w'
theorem ip_IP_vacant.Call.mono {p} {w : World} {R R' : Int → World → Prop} (h : ip_IP_vacant.Call p w R) (hr : ∀ r w', R r w' → R' r w') : ip_IP_vacant.Call p w R' :=
  Calls.mono h fun e w' he => by
    obtain ⟨r, h1, h2⟩ := he
    exact ⟨r, h1, hr r w' h2⟩
def ip_IP_vacant.RV (R : Int → World → Prop) (v : Value) (w : World) : Prop := match v with
  | .int .i64 r => R r w
  | _ => False
theorem ip_IP_vacant.RV_elim {R : Int → World → Prop} {v : Value} {w : World} (h : ip_IP_vacant.RV R v w) : ∃ r, Ending.returned v = .returned (.int .i64 r) ∧ R r w := by
  unfold ip_IP_vacant.RV at h
  split at h
  · exact ⟨_, rfl, h⟩
  · exact h.elim
/-- (*e2e/ip.IP).clash -/
def ip_IP_clash.Call (p : Option Addr) (i end0 : Int) (more : Bool) (w : World) (R : Bool → World → Prop) : Prop :=
  Calls Try.prog 57 #[.pointer p, .int .i64 i, .int .i64 end0, .bool more] w fun e w' => ∃ r, e = .returned (.bool r) ∧ R r w'
theorem ip_IP_clash.Call.mono {p i end0 more} {w : World} {R R' : Bool → World → Prop} (h : ip_IP_clash.Call p i end0 more w R) (hr : ∀ r w', R r w' → R' r w') : ip_IP_clash.Call p i end0 more w R' :=
  Calls.mono h fun e w' he => by
    obtain ⟨r, h1, h2⟩ := he
    exact ⟨r, h1, hr r w' h2⟩
def ip_IP_clash.RV (R : Bool → World → Prop) (v : Value) (w : World) : Prop := match v with
  | .bool r => R r w
  | _ => False
theorem ip_IP_clash.RV_elim {R : Bool → World → Prop} {v : Value} {w : World} (h : ip_IP_clash.RV R v w) : ∃ r, Ending.returned v = .returned (.bool r) ∧ R r w := by
  unfold ip_IP_clash.RV at h
  split at h
  · exact ⟨_, rfl, h⟩
  · exact h.elim
/-- (*e2e/ip.IP).lay -/
def ip_IP_lay.Call (p : Option Addr) (i off : Int) (payload_b : Option Addr) (payload_l payload_c : Nat) (w : World) (R : World → Prop) : Prop :=
  Calls Try.prog 58 #[.pointer p, .int .i64 i, .int .i64 off, .slice payload_b payload_l payload_c] w fun e w' => e = .returned (.tuple #[]) ∧ R w'
theorem ip_IP_lay.Call.mono {p i off payload_b payload_l payload_c} {w : World} {R R' : World → Prop} (h : ip_IP_lay.Call p i off payload_b payload_l payload_c w R) (hr : ∀ w', R w' → R'  w') : ip_IP_lay.Call p i off payload_b payload_l payload_c w R' :=
  Calls.mono h fun e w' he => by
    obtain ⟨h1, h2⟩ := he
    exact ⟨h1, hr  w' h2⟩
def ip_IP_lay.RV (R : World → Prop) (v : Value) (w : World) : Prop := match v with
  | .tuple ⟨[]⟩ => R w
  | _ => False
theorem ip_IP_lay.RV_elim {R : World → Prop} {v : Value} {w : World} (h : ip_IP_lay.RV R v w) : Ending.returned v = .returned (.tuple #[]) ∧ R w := by
  unfold ip_IP_lay.RV at h
  split at h
  · exact ⟨rfl, h⟩
  · exact h.elim
/-- (*e2e/ip.IP).whole -/
def ip_IP_whole.Call (p : Option Addr) (i : Int) (w : World) (R : Bool → World → Prop) : Prop :=
  Calls Try.prog 59 #[.pointer p, .int .i64 i] w fun e w' => ∃ r, e = .returned (.bool r) ∧ R r w'
theorem ip_IP_whole.Call.mono {p i} {w : World} {R R' : Bool → World → Prop} (h : ip_IP_whole.Call p i w R) (hr : ∀ r w', R r w' → R' r w') : ip_IP_whole.Call p i w R' :=
  Calls.mono h fun e w' he => by
    obtain ⟨r, h1, h2⟩ := he
    exact ⟨r, h1, hr r w' h2⟩
def ip_IP_whole.RV (R : Bool → World → Prop) (v : Value) (w : World) : Prop := match v with
  | .bool r => R r w
  | _ => False
theorem ip_IP_whole.RV_elim {R : Bool → World → Prop} {v : Value} {w : World} (h : ip_IP_whole.RV R v w) : ∃ r, Ending.returned v = .returned (.bool r) ∧ R r w := by
  unfold ip_IP_whole.RV at h
  split at h
  · exact ⟨_, rfl, h⟩
  · exact h.elim
/-- (*e2e/ipm.IP).find -/
def ipm_IP_find.Call (p : Option Addr) (src proto id0 : Int) (w : World) (R : Int → World → Prop) : Prop :=
  Calls Try.prog 60 #[.pointer p, .int .i64 src, .int .i64 proto, .int .i64 id0] w fun e w' => ∃ r, e = .returned (.int .i64 r) ∧ R r w'
theorem ipm_IP_find.Call.mono {p src proto id0} {w : World} {R R' : Int → World → Prop} (h : ipm_IP_find.Call p src proto id0 w R) (hr : ∀ r w', R r w' → R' r w') : ipm_IP_find.Call p src proto id0 w R' :=
  Calls.mono h fun e w' he => by
    obtain ⟨r, h1, h2⟩ := he
    exact ⟨r, h1, hr r w' h2⟩
def ipm_IP_find.RV (R : Int → World → Prop) (v : Value) (w : World) : Prop := match v with
  | .int .i64 r => R r w
  | _ => False
theorem ipm_IP_find.RV_elim {R : Int → World → Prop} {v : Value} {w : World} (h : ipm_IP_find.RV R v w) : ∃ r, Ending.returned v = .returned (.int .i64 r) ∧ R r w := by
  unfold ipm_IP_find.RV at h
  split at h
  · exact ⟨_, rfl, h⟩
  · exact h.elim
/-- (*e2e/ipm.IP).less -/
def ipm_IP_less.Call (p : Option Addr) (i src proto id0 : Int) (w : World) (R : Bool → World → Prop) : Prop :=
  Calls Try.prog 61 #[.pointer p, .int .i64 i, .int .i64 src, .int .i64 proto, .int .i64 id0] w fun e w' => ∃ r, e = .returned (.bool r) ∧ R r w'
theorem ipm_IP_less.Call.mono {p i src proto id0} {w : World} {R R' : Bool → World → Prop} (h : ipm_IP_less.Call p i src proto id0 w R) (hr : ∀ r w', R r w' → R' r w') : ipm_IP_less.Call p i src proto id0 w R' :=
  Calls.mono h fun e w' he => by
    obtain ⟨r, h1, h2⟩ := he
    exact ⟨r, h1, hr r w' h2⟩
def ipm_IP_less.RV (R : Bool → World → Prop) (v : Value) (w : World) : Prop := match v with
  | .bool r => R r w
  | _ => False
theorem ipm_IP_less.RV_elim {R : Bool → World → Prop} {v : Value} {w : World} (h : ipm_IP_less.RV R v w) : ∃ r, Ending.returned v = .returned (.bool r) ∧ R r w := by
  unfold ipm_IP_less.RV at h
  split at h
  · exact ⟨_, rfl, h⟩
  · exact h.elim
end Go.Proofs.Qxb6500425a
