import Derived.Test.Qxb6500422aGreatProg
import Derived.Test.Qxb6500422aGreatVcC
open Go.Vc
namespace Go.Proofs.Qxb6500422aGreat
theorem Tryz.mixed : Tryz.prog.follows .mixedOrders = true := by kernel_rfl
abbrev T_int64 : TypeId := 2
abbrev T_int : TypeId := 3
abbrev T_bool : TypeId := 4
abbrev T_uint8 : TypeId := 5
abbrev T_string : TypeId := 9
abbrev T_uintptr : TypeId := 12
abbrev T_int32 : TypeId := 21
abbrev T_api_Op : TypeId := 32
abbrev T_connlaw_Below : TypeId := 40
abbrev T_api_Segment : TypeId := 45
abbrev T_connlaw_World : TypeId := 50
abbrev T_api_Errno : TypeId := 59
abbrev T_conn_Conn : TypeId := 61
abbrev T_connm_Conn : TypeId := 65
abbrev T_api_ConnInfo : TypeId := 76
abbrev T_seg_SendBuf : TypeId := 92
abbrev T_uint16 : TypeId := 93
abbrev T_seg_RecvBuf : TypeId := 95
abbrev T_uint : TypeId := 117
abbrev T_uint32 : TypeId := 127
/-- e2e/connlaw.Refines -/
def connlaw_Refines.Call (script_b : Option Addr) (script_l script_c : Nat) (w : World) (R : Bool → World → Prop) : Prop :=
  Calls Tryz.prog 3 #[.slice script_b script_l script_c] w fun e w' => ∃ r, e = .returned (.bool r) ∧ R r w'
theorem connlaw_Refines.Call.mono {script_b script_l script_c} {w : World} {R R' : Bool → World → Prop} (h : connlaw_Refines.Call script_b script_l script_c w R) (hr : ∀ r w', R r w' → R' r w') : connlaw_Refines.Call script_b script_l script_c w R' :=
  Calls.mono h fun e w' he => by
    obtain ⟨r, h1, h2⟩ := he
    exact ⟨r, h1, hr r w' h2⟩
def connlaw_Refines.RV (R : Bool → World → Prop) (v : Value) (w : World) : Prop := match v with
  | .bool r => R r w
  | _ => False
theorem connlaw_Refines.RV_elim {R : Bool → World → Prop} {v : Value} {w : World} (h : connlaw_Refines.RV R v w) : ∃ r, Ending.returned v = .returned (.bool r) ∧ R r w := by
  unfold connlaw_Refines.RV at h
  split at h
  · exact ⟨_, rfl, h⟩
  · exact h.elim
/-- e2e/connlaw.RefinesQuiet -/
def connlaw_RefinesQuiet.Call (script_b : Option Addr) (script_l script_c : Nat) (w : World) (R : Bool → World → Prop) : Prop :=
  Calls Tryz.prog 4 #[.slice script_b script_l script_c] w fun e w' => ∃ r, e = .returned (.bool r) ∧ R r w'
theorem connlaw_RefinesQuiet.Call.mono {script_b script_l script_c} {w : World} {R R' : Bool → World → Prop} (h : connlaw_RefinesQuiet.Call script_b script_l script_c w R) (hr : ∀ r w', R r w' → R' r w') : connlaw_RefinesQuiet.Call script_b script_l script_c w R' :=
  Calls.mono h fun e w' he => by
    obtain ⟨r, h1, h2⟩ := he
    exact ⟨r, h1, hr r w' h2⟩
def connlaw_RefinesQuiet.RV (R : Bool → World → Prop) (v : Value) (w : World) : Prop := match v with
  | .bool r => R r w
  | _ => False
theorem connlaw_RefinesQuiet.RV_elim {R : Bool → World → Prop} {v : Value} {w : World} (h : connlaw_RefinesQuiet.RV R v w) : ∃ r, Ending.returned v = .returned (.bool r) ∧ R r w := by
  unfold connlaw_RefinesQuiet.RV at h
  split at h
  · exact ⟨_, rfl, h⟩
  · exact h.elim
/-- e2e/connlaw.RefinesUpTo -/
def connlaw_RefinesUpTo.Call (script_b : Option Addr) (script_l script_c : Nat) (w : World) (R : Int → World → Prop) : Prop :=
  Calls Tryz.prog 5 #[.slice script_b script_l script_c] w fun e w' => ∃ r, e = .returned (.int .i64 r) ∧ R r w'
theorem connlaw_RefinesUpTo.Call.mono {script_b script_l script_c} {w : World} {R R' : Int → World → Prop} (h : connlaw_RefinesUpTo.Call script_b script_l script_c w R) (hr : ∀ r w', R r w' → R' r w') : connlaw_RefinesUpTo.Call script_b script_l script_c w R' :=
  Calls.mono h fun e w' he => by
    obtain ⟨r, h1, h2⟩ := he
    exact ⟨r, h1, hr r w' h2⟩
def connlaw_RefinesUpTo.RV (R : Int → World → Prop) (v : Value) (w : World) : Prop := match v with
  | .int .i64 r => R r w
  | _ => False
theorem connlaw_RefinesUpTo.RV_elim {R : Int → World → Prop} {v : Value} {w : World} (h : connlaw_RefinesUpTo.RV R v w) : ∃ r, Ending.returned v = .returned (.int .i64 r) ∧ R r w := by
  unfold connlaw_RefinesUpTo.RV at h
  split at h
  · exact ⟨_, rfl, h⟩
  · exact h.elim
/-- e2e/connlaw.RefinesQuietUpTo -/
def connlaw_RefinesQuietUpTo.Call (script_b : Option Addr) (script_l script_c : Nat) (w : World) (R : Int → World → Prop) : Prop :=
  Calls Tryz.prog 6 #[.slice script_b script_l script_c] w fun e w' => ∃ r, e = .returned (.int .i64 r) ∧ R r w'
theorem connlaw_RefinesQuietUpTo.Call.mono {script_b script_l script_c} {w : World} {R R' : Int → World → Prop} (h : connlaw_RefinesQuietUpTo.Call script_b script_l script_c w R) (hr : ∀ r w', R r w' → R' r w') : connlaw_RefinesQuietUpTo.Call script_b script_l script_c w R' :=
  Calls.mono h fun e w' he => by
    obtain ⟨r, h1, h2⟩ := he
    exact ⟨r, h1, hr r w' h2⟩
def connlaw_RefinesQuietUpTo.RV (R : Int → World → Prop) (v : Value) (w : World) : Prop := match v with
  | .int .i64 r => R r w
  | _ => False
theorem connlaw_RefinesQuietUpTo.RV_elim {R : Int → World → Prop} {v : Value} {w : World} (h : connlaw_RefinesQuietUpTo.RV R v w) : ∃ r, Ending.returned v = .returned (.int .i64 r) ∧ R r w := by
  unfold connlaw_RefinesQuietUpTo.RV at h
  split at h
  · exact ⟨_, rfl, h⟩
  · exact h.elim
/-- e2e/connlaw.walk -/
def connlaw_walk.Call (script_b : Option Addr) (script_l script_c : Nat) (quiet : Bool) (w : World) (R : Int → Int → World → Prop) : Prop :=
  Calls Tryz.prog 7 #[.slice script_b script_l script_c, .bool quiet] w fun e w' => ∃ r0 r1, e = .returned (.tuple #[.int .i64 r0, .int .i64 r1]) ∧ R r0 r1 w'
theorem connlaw_walk.Call.mono {script_b script_l script_c quiet} {w : World} {R R' : Int → Int → World → Prop} (h : connlaw_walk.Call script_b script_l script_c quiet w R) (hr : ∀ r0 r1 w', R r0 r1 w' → R' r0 r1 w') : connlaw_walk.Call script_b script_l script_c quiet w R' :=
  Calls.mono h fun e w' he => by
    obtain ⟨r0, r1, h1, h2⟩ := he
    exact ⟨r0, r1, h1, hr r0 r1 w' h2⟩
def connlaw_walk.RV (R : Int → Int → World → Prop) (v : Value) (w : World) : Prop := match v with
  | .tuple ⟨[.int .i64 r0, .int .i64 r1]⟩ => R r0 r1 w
  | _ => False
theorem connlaw_walk.RV_elim {R : Int → Int → World → Prop} {v : Value} {w : World} (h : connlaw_walk.RV R v w) : ∃ r0 r1, Ending.returned v = .returned (.tuple #[.int .i64 r0, .int .i64 r1]) ∧ R r0 r1 w := by
  unfold connlaw_walk.RV at h
  split at h
  · exact ⟨_, _, rfl, h⟩
  · exact h.elim
/-- e2e/connlaw.NewWorld -/
def connlaw_NewWorld.Call (quiet : Bool) (w : World) (R : Option Addr → World → Prop) : Prop :=
  Calls Tryz.prog 8 #[.bool quiet] w fun e w' => ∃ r, e = .returned (.pointer r) ∧ R r w'
theorem connlaw_NewWorld.Call.mono {quiet} {w : World} {R R' : Option Addr → World → Prop} (h : connlaw_NewWorld.Call quiet w R) (hr : ∀ r w', R r w' → R' r w') : connlaw_NewWorld.Call quiet w R' :=
  Calls.mono h fun e w' he => by
    obtain ⟨r, h1, h2⟩ := he
    exact ⟨r, h1, hr r w' h2⟩
def connlaw_NewWorld.RV (R : Option Addr → World → Prop) (v : Value) (w : World) : Prop := match v with
  | .pointer r => R r w
  | _ => False
theorem connlaw_NewWorld.RV_elim {R : Option Addr → World → Prop} {v : Value} {w : World} (h : connlaw_NewWorld.RV R v w) : ∃ r, Ending.returned v = .returned (.pointer r) ∧ R r w := by
  unfold connlaw_NewWorld.RV at h
  split at h
  · exact ⟨_, rfl, h⟩
  · exact h.elim
/-- (*e2e/connlaw.World).Alike -/
def connlaw_World_Alike.Call (w0 : Option Addr) (w : World) (R : Bool → World → Prop) : Prop :=
  Calls Tryz.prog 9 #[.pointer w0] w fun e w' => ∃ r, e = .returned (.bool r) ∧ R r w'
theorem connlaw_World_Alike.Call.mono {w0} {w : World} {R R' : Bool → World → Prop} (h : connlaw_World_Alike.Call w0 w R) (hr : ∀ r w', R r w' → R' r w') : connlaw_World_Alike.Call w0 w R' :=
  Calls.mono h fun e w' he => by
    obtain ⟨r, h1, h2⟩ := he
    exact ⟨r, h1, hr r w' h2⟩
def connlaw_World_Alike.RV (R : Bool → World → Prop) (v : Value) (w : World) : Prop := match v with
  | .bool r => R r w
  | _ => False
theorem connlaw_World_Alike.RV_elim {R : Bool → World → Prop} {v : Value} {w : World} (h : connlaw_World_Alike.RV R v w) : ∃ r, Ending.returned v = .returned (.bool r) ∧ R r w := by
  unfold connlaw_World_Alike.RV at h
  split at h
  · exact ⟨_, rfl, h⟩
  · exact h.elim
/-- (*e2e/connlaw.World).Step -/
def connlaw_World_Step.Call (w0 : Option Addr) (o_0 o_1 o_2 o_3 : Int) (o_4 o_5 : ByteArray) (w : World) (R : Bool → World → Prop) : Prop :=
  Calls Tryz.prog 10 #[.pointer w0, .agg #[.int .i64 o_0, .int .i64 o_1, .int .i64 o_2, .int .i64 o_3, .string o_4, .string o_5]] w fun e w' => ∃ r, e = .returned (.bool r) ∧ R r w'
theorem connlaw_World_Step.Call.mono {w0 o_0 o_1 o_2 o_3 o_4 o_5} {w : World} {R R' : Bool → World → Prop} (h : connlaw_World_Step.Call w0 o_0 o_1 o_2 o_3 o_4 o_5 w R) (hr : ∀ r w', R r w' → R' r w') : connlaw_World_Step.Call w0 o_0 o_1 o_2 o_3 o_4 o_5 w R' :=
  Calls.mono h fun e w' he => by
    obtain ⟨r, h1, h2⟩ := he
    exact ⟨r, h1, hr r w' h2⟩
def connlaw_World_Step.RV (R : Bool → World → Prop) (v : Value) (w : World) : Prop := match v with
  | .bool r => R r w
  | _ => False
theorem connlaw_World_Step.RV_elim {R : Bool → World → Prop} {v : Value} {w : World} (h : connlaw_World_Step.RV R v w) : ∃ r, Ending.returned v = .returned (.bool r) ∧ R r w := by
  unfold connlaw_World_Step.RV at h
  split at h
  · exact ⟨_, rfl, h⟩
  · exact h.elim
/-- (*e2e/connlaw.World).Untouched -/
def connlaw_World_Untouched.Call (w0 : Option Addr) (w : World) (R : Bool → World → Prop) : Prop :=
  Calls Tryz.prog 11 #[.pointer w0] w fun e w' => ∃ r, e = .returned (.bool r) ∧ R r w'
theorem connlaw_World_Untouched.Call.mono {w0} {w : World} {R R' : Bool → World → Prop} (h : connlaw_World_Untouched.Call w0 w R) (hr : ∀ r w', R r w' → R' r w') : connlaw_World_Untouched.Call w0 w R' :=
  Calls.mono h fun e w' he => by
    obtain ⟨r, h1, h2⟩ := he
    exact ⟨r, h1, hr r w' h2⟩
def connlaw_World_Untouched.RV (R : Bool → World → Prop) (v : Value) (w : World) : Prop := match v with
  | .bool r => R r w
  | _ => False
theorem connlaw_World_Untouched.RV_elim {R : Bool → World → Prop} {v : Value} {w : World} (h : connlaw_World_Untouched.RV R v w) : ∃ r, Ending.returned v = .returned (.bool r) ∧ R r w := by
  unfold connlaw_World_Untouched.RV at h
  split at h
  · exact ⟨_, rfl, h⟩
  · exact h.elim
/-- e2e/connlaw.Ground -/
def connlaw_Ground.Call  (w : World) (R : Option Addr → Option Addr → World → Prop) : Prop :=
  Calls Tryz.prog 12 #[] w fun e w' => ∃ r_0 r_1, e = .returned (.agg #[.pointer r_0, .pointer r_1]) ∧ R r_0 r_1 w'
theorem connlaw_Ground.Call.mono {w : World} {R R' : Option Addr → Option Addr → World → Prop} (h : connlaw_Ground.Call w R) (hr : ∀ r_0 r_1 w', R r_0 r_1 w' → R' r_0 r_1 w') : connlaw_Ground.Call w R' :=
  Calls.mono h fun e w' he => by
    obtain ⟨r_0, r_1, h1, h2⟩ := he
    exact ⟨r_0, r_1, h1, hr r_0 r_1 w' h2⟩
def connlaw_Ground.RV (R : Option Addr → Option Addr → World → Prop) (v : Value) (w : World) : Prop := match v with
  | .agg ⟨[.pointer r_0, .pointer r_1]⟩ => R r_0 r_1 w
  | _ => False
theorem connlaw_Ground.RV_elim {R : Option Addr → Option Addr → World → Prop} {v : Value} {w : World} (h : connlaw_Ground.RV R v w) : ∃ r_0 r_1, Ending.returned v = .returned (.agg #[.pointer r_0, .pointer r_1]) ∧ R r_0 r_1 w := by
  unfold connlaw_Ground.RV at h
  split at h
  · exact ⟨_, _, rfl, h⟩
  · exact h.elim
/-- e2e/conn.New -/
def conn_New.Call (sb rb : Option Addr) (w : World) (R : Option Addr → World → Prop) : Prop :=
  Calls Tryz.prog 13 #[.pointer sb, .pointer rb] w fun e w' => ∃ r, e = .returned (.pointer r) ∧ R r w'
theorem conn_New.Call.mono {sb rb} {w : World} {R R' : Option Addr → World → Prop} (h : conn_New.Call sb rb w R) (hr : ∀ r w', R r w' → R' r w') : conn_New.Call sb rb w R' :=
  Calls.mono h fun e w' he => by
    obtain ⟨r, h1, h2⟩ := he
    exact ⟨r, h1, hr r w' h2⟩
def conn_New.RV (R : Option Addr → World → Prop) (v : Value) (w : World) : Prop := match v with
  | .pointer r => R r w
  | _ => False
theorem conn_New.RV_elim {R : Option Addr → World → Prop} {v : Value} {w : World} (h : conn_New.RV R v w) : ∃ r, Ending.returned v = .returned (.pointer r) ∧ R r w := by
  unfold conn_New.RV at h
  split at h
  · exact ⟨_, rfl, h⟩
  · exact h.elim
/-- e2e/connm.New -/
def connm_New.Call  (w : World) (R : Option Addr → World → Prop) : Prop :=
  Calls Tryz.prog 14 #[] w fun e w' => ∃ r, e = .returned (.pointer r) ∧ R r w'
theorem connm_New.Call.mono {w : World} {R R' : Option Addr → World → Prop} (h : connm_New.Call w R) (hr : ∀ r w', R r w' → R' r w') : connm_New.Call w R' :=
  Calls.mono h fun e w' he => by
    obtain ⟨r, h1, h2⟩ := he
    exact ⟨r, h1, hr r w' h2⟩
def connm_New.RV (R : Option Addr → World → Prop) (v : Value) (w : World) : Prop := match v with
  | .pointer r => R r w
  | _ => False
theorem connm_New.RV_elim {R : Option Addr → World → Prop} {v : Value} {w : World} (h : connm_New.RV R v w) : ∃ r, Ending.returned v = .returned (.pointer r) ∧ R r w := by
  unfold connm_New.RV at h
  split at h
  · exact ⟨_, rfl, h⟩
  · exact h.elim
/-- (*e2e/connlaw.World).LikeInfo -/
def connlaw_World_LikeInfo.Call (w0 : Option Addr) (c : Int) (w : World) (R : Bool → World → Prop) : Prop :=
  Calls Tryz.prog 15 #[.pointer w0, .int .i64 c] w fun e w' => ∃ r, e = .returned (.bool r) ∧ R r w'
theorem connlaw_World_LikeInfo.Call.mono {w0 c} {w : World} {R R' : Bool → World → Prop} (h : connlaw_World_LikeInfo.Call w0 c w R) (hr : ∀ r w', R r w' → R' r w') : connlaw_World_LikeInfo.Call w0 c w R' :=
  Calls.mono h fun e w' he => by
    obtain ⟨r, h1, h2⟩ := he
    exact ⟨r, h1, hr r w' h2⟩
def connlaw_World_LikeInfo.RV (R : Bool → World → Prop) (v : Value) (w : World) : Prop := match v with
  | .bool r => R r w
  | _ => False
theorem connlaw_World_LikeInfo.RV_elim {R : Bool → World → Prop} {v : Value} {w : World} (h : connlaw_World_LikeInfo.RV R v w) : ∃ r, Ending.returned v = .returned (.bool r) ∧ R r w := by
  unfold connlaw_World_LikeInfo.RV at h
  split at h
  · exact ⟨_, rfl, h⟩
  · exact h.elim
/-- (*e2e/connlaw.World).LikePeek -/
def connlaw_World_LikePeek.Call (w0 : Option Addr) (c : Int) (w : World) (R : Bool → World → Prop) : Prop :=
  Calls Tryz.prog 16 #[.pointer w0, .int .i64 c] w fun e w' => ∃ r, e = .returned (.bool r) ∧ R r w'
theorem connlaw_World_LikePeek.Call.mono {w0 c} {w : World} {R R' : Bool → World → Prop} (h : connlaw_World_LikePeek.Call w0 c w R) (hr : ∀ r w', R r w' → R' r w') : connlaw_World_LikePeek.Call w0 c w R' :=
  Calls.mono h fun e w' he => by
    obtain ⟨r, h1, h2⟩ := he
    exact ⟨r, h1, hr r w' h2⟩
def connlaw_World_LikePeek.RV (R : Bool → World → Prop) (v : Value) (w : World) : Prop := match v with
  | .bool r => R r w
  | _ => False
theorem connlaw_World_LikePeek.RV_elim {R : Bool → World → Prop} {v : Value} {w : World} (h : connlaw_World_LikePeek.RV R v w) : ∃ r, Ending.returned v = .returned (.bool r) ∧ R r w := by
  unfold connlaw_World_LikePeek.RV at h
  split at h
  · exact ⟨_, rfl, h⟩
  · exact h.elim
/-- (*e2e/conn.Conn).Check -/
def conn_Conn_Check.Call (c : Option Addr) (w : World) (R : Bool → World → Prop) : Prop :=
  Calls Tryz.prog 17 #[.pointer c] w fun e w' => ∃ r, e = .returned (.bool r) ∧ R r w'
theorem conn_Conn_Check.Call.mono {c} {w : World} {R R' : Bool → World → Prop} (h : conn_Conn_Check.Call c w R) (hr : ∀ r w', R r w' → R' r w') : conn_Conn_Check.Call c w R' :=
  Calls.mono h fun e w' he => by
    obtain ⟨r, h1, h2⟩ := he
    exact ⟨r, h1, hr r w' h2⟩
def conn_Conn_Check.RV (R : Bool → World → Prop) (v : Value) (w : World) : Prop := match v with
  | .bool r => R r w
  | _ => False
theorem conn_Conn_Check.RV_elim {R : Bool → World → Prop} {v : Value} {w : World} (h : conn_Conn_Check.RV R v w) : ∃ r, Ending.returned v = .returned (.bool r) ∧ R r w := by
  unfold conn_Conn_Check.RV at h
  split at h
  · exact ⟨_, rfl, h⟩
  · exact h.elim
/-- (*e2e/connlaw.World).Play -/
def connlaw_World_Play.Call (w0 : Option Addr) (o_0 o_1 o_2 o_3 : Int) (o_4 o_5 : ByteArray) (w : World) (R : Bool → World → Prop) : Prop :=
  Calls Tryz.prog 18 #[.pointer w0, .agg #[.int .i64 o_0, .int .i64 o_1, .int .i64 o_2, .int .i64 o_3, .string o_4, .string o_5]] w fun e w' => ∃ r, e = .returned (.bool r) ∧ R r w'
theorem connlaw_World_Play.Call.mono {w0 o_0 o_1 o_2 o_3 o_4 o_5} {w : World} {R R' : Bool → World → Prop} (h : connlaw_World_Play.Call w0 o_0 o_1 o_2 o_3 o_4 o_5 w R) (hr : ∀ r w', R r w' → R' r w') : connlaw_World_Play.Call w0 o_0 o_1 o_2 o_3 o_4 o_5 w R' :=
  Calls.mono h fun e w' he => by
    obtain ⟨r, h1, h2⟩ := he
    exact ⟨r, h1, hr r w' h2⟩
def connlaw_World_Play.RV (R : Bool → World → Prop) (v : Value) (w : World) : Prop := match v with
  | .bool r => R r w
  | _ => False
theorem connlaw_World_Play.RV_elim {R : Bool → World → Prop} {v : Value} {w : World} (h : connlaw_World_Play.RV R v w) : ∃ r, Ending.returned v = .returned (.bool r) ∧ R r w := by
  unfold connlaw_World_Play.RV at h
  split at h
  · exact ⟨_, rfl, h⟩
  · exact h.elim
/-- (*e2e/connlaw.World).Seam -/
def connlaw_World_Seam.Call (w0 : Option Addr) (c : Int) (w : World) (R : Bool → World → Prop) : Prop :=
  Calls Tryz.prog 19 #[.pointer w0, .int .i64 c] w fun e w' => ∃ r, e = .returned (.bool r) ∧ R r w'
theorem connlaw_World_Seam.Call.mono {w0 c} {w : World} {R R' : Bool → World → Prop} (h : connlaw_World_Seam.Call w0 c w R) (hr : ∀ r w', R r w' → R' r w') : connlaw_World_Seam.Call w0 c w R' :=
  Calls.mono h fun e w' he => by
    obtain ⟨r, h1, h2⟩ := he
    exact ⟨r, h1, hr r w' h2⟩
def connlaw_World_Seam.RV (R : Bool → World → Prop) (v : Value) (w : World) : Prop := match v with
  | .bool r => R r w
  | _ => False
theorem connlaw_World_Seam.RV_elim {R : Bool → World → Prop} {v : Value} {w : World} (h : connlaw_World_Seam.RV R v w) : ∃ r, Ending.returned v = .returned (.bool r) ∧ R r w := by
  unfold connlaw_World_Seam.RV at h
  split at h
  · exact ⟨_, rfl, h⟩
  · exact h.elim
/-- e2e/connlaw.Stamp -/
def connlaw_Stamp.Call (j i : Int) (w : World) (R : Int → World → Prop) : Prop :=
  Calls Tryz.prog 20 #[.int .i64 j, .int .i64 i] w fun e w' => ∃ r, e = .returned (.int .u8 r) ∧ R r w'
theorem connlaw_Stamp.Call.mono {j i} {w : World} {R R' : Int → World → Prop} (h : connlaw_Stamp.Call j i w R) (hr : ∀ r w', R r w' → R' r w') : connlaw_Stamp.Call j i w R' :=
  Calls.mono h fun e w' he => by
    obtain ⟨r, h1, h2⟩ := he
    exact ⟨r, h1, hr r w' h2⟩
def connlaw_Stamp.RV (R : Int → World → Prop) (v : Value) (w : World) : Prop := match v with
  | .int .u8 r => R r w
  | _ => False
theorem connlaw_Stamp.RV_elim {R : Int → World → Prop} {v : Value} {w : World} (h : connlaw_Stamp.RV R v w) : ∃ r, Ending.returned v = .returned (.int .u8 r) ∧ R r w := by
  unfold connlaw_Stamp.RV at h
  split at h
  · exact ⟨_, rfl, h⟩
  · exact h.elim
/-- e2e/seg.NewSendBuf -/
def seg_NewSendBuf.Call  (w : World) (R : Option Addr → World → Prop) : Prop :=
  Calls Tryz.prog 21 #[] w fun e w' => ∃ r, e = .returned (.pointer r) ∧ R r w'
theorem seg_NewSendBuf.Call.mono {w : World} {R R' : Option Addr → World → Prop} (h : seg_NewSendBuf.Call w R) (hr : ∀ r w', R r w' → R' r w') : seg_NewSendBuf.Call w R' :=
  Calls.mono h fun e w' he => by
    obtain ⟨r, h1, h2⟩ := he
    exact ⟨r, h1, hr r w' h2⟩
def seg_NewSendBuf.RV (R : Option Addr → World → Prop) (v : Value) (w : World) : Prop := match v with
  | .pointer r => R r w
  | _ => False
theorem seg_NewSendBuf.RV_elim {R : Option Addr → World → Prop} {v : Value} {w : World} (h : seg_NewSendBuf.RV R v w) : ∃ r, Ending.returned v = .returned (.pointer r) ∧ R r w := by
  unfold seg_NewSendBuf.RV at h
  split at h
  · exact ⟨_, rfl, h⟩
  · exact h.elim
/-- e2e/seg.NewRecvBuf -/
def seg_NewRecvBuf.Call  (w : World) (R : Option Addr → World → Prop) : Prop :=
  Calls Tryz.prog 22 #[] w fun e w' => ∃ r, e = .returned (.pointer r) ∧ R r w'
theorem seg_NewRecvBuf.Call.mono {w : World} {R R' : Option Addr → World → Prop} (h : seg_NewRecvBuf.Call w R) (hr : ∀ r w', R r w' → R' r w') : seg_NewRecvBuf.Call w R' :=
  Calls.mono h fun e w' he => by
    obtain ⟨r, h1, h2⟩ := he
    exact ⟨r, h1, hr r w' h2⟩
def seg_NewRecvBuf.RV (R : Option Addr → World → Prop) (v : Value) (w : World) : Prop := match v with
  | .pointer r => R r w
  | _ => False
theorem seg_NewRecvBuf.RV_elim {R : Option Addr → World → Prop} {v : Value} {w : World} (h : seg_NewRecvBuf.RV R v w) : ∃ r, Ending.returned v = .returned (.pointer r) ∧ R r w := by
  unfold seg_NewRecvBuf.RV at h
  split at h
  · exact ⟨_, rfl, h⟩
  · exact h.elim
/-- (*e2e/conn.Conn).Info -/
def conn_Conn_Info.Call (c : Option Addr) (w : World) (R : Option Addr → World → Prop) : Prop :=
  Calls Tryz.prog 23 #[.pointer c] w fun e w' => ∃ r, e = .returned (.pointer r) ∧ R r w'
theorem conn_Conn_Info.Call.mono {c} {w : World} {R R' : Option Addr → World → Prop} (h : conn_Conn_Info.Call c w R) (hr : ∀ r w', R r w' → R' r w') : conn_Conn_Info.Call c w R' :=
  Calls.mono h fun e w' he => by
    obtain ⟨r, h1, h2⟩ := he
    exact ⟨r, h1, hr r w' h2⟩
def conn_Conn_Info.RV (R : Option Addr → World → Prop) (v : Value) (w : World) : Prop := match v with
  | .pointer r => R r w
  | _ => False
theorem conn_Conn_Info.RV_elim {R : Option Addr → World → Prop} {v : Value} {w : World} (h : conn_Conn_Info.RV R v w) : ∃ r, Ending.returned v = .returned (.pointer r) ∧ R r w := by
  unfold conn_Conn_Info.RV at h
  split at h
  · exact ⟨_, rfl, h⟩
  · exact h.elim
/-- (*e2e/connm.Conn).Info -/
def connm_Conn_Info.Call (c : Option Addr) (w : World) (R : Option Addr → World → Prop) : Prop :=
  Calls Tryz.prog 24 #[.pointer c] w fun e w' => ∃ r, e = .returned (.pointer r) ∧ R r w'
theorem connm_Conn_Info.Call.mono {c} {w : World} {R R' : Option Addr → World → Prop} (h : connm_Conn_Info.Call c w R) (hr : ∀ r w', R r w' → R' r w') : connm_Conn_Info.Call c w R' :=
  Calls.mono h fun e w' he => by
    obtain ⟨r, h1, h2⟩ := he
    exact ⟨r, h1, hr r w' h2⟩
def connm_Conn_Info.RV (R : Option Addr → World → Prop) (v : Value) (w : World) : Prop := match v with
  | .pointer r => R r w
  | _ => False
theorem connm_Conn_Info.RV_elim {R : Option Addr → World → Prop} {v : Value} {w : World} (h : connm_Conn_Info.RV R v w) : ∃ r, Ending.returned v = .returned (.pointer r) ∧ R r w := by
  unfold connm_Conn_Info.RV at h
  split at h
  · exact ⟨_, rfl, h⟩
  · exact h.elim
/-- e2e/connlaw.SameInfo -/
def connlaw_SameInfo.Call (a b : Option Addr) (w : World) (R : Bool → World → Prop) : Prop :=
  Calls Tryz.prog 25 #[.pointer a, .pointer b] w fun e w' => ∃ r, e = .returned (.bool r) ∧ R r w'
theorem connlaw_SameInfo.Call.mono {a b} {w : World} {R R' : Bool → World → Prop} (h : connlaw_SameInfo.Call a b w R) (hr : ∀ r w', R r w' → R' r w') : connlaw_SameInfo.Call a b w R' :=
  Calls.mono h fun e w' he => by
    obtain ⟨r, h1, h2⟩ := he
    exact ⟨r, h1, hr r w' h2⟩
def connlaw_SameInfo.RV (R : Bool → World → Prop) (v : Value) (w : World) : Prop := match v with
  | .bool r => R r w
  | _ => False
theorem connlaw_SameInfo.RV_elim {R : Bool → World → Prop} {v : Value} {w : World} (h : connlaw_SameInfo.RV R v w) : ∃ r, Ending.returned v = .returned (.bool r) ∧ R r w := by
  unfold connlaw_SameInfo.RV at h
  split at h
  · exact ⟨_, rfl, h⟩
  · exact h.elim
/-- (*e2e/conn.Conn).Peek -/
def conn_Conn_Peek.Call (c : Option Addr) (w : World) (R : Option Addr → Nat → Nat → Option Addr → Nat → Nat → Option Addr → Nat → Nat → World → Prop) : Prop :=
  Calls Tryz.prog 26 #[.pointer c] w fun e w' => ∃ r0_b r0_l r0_c r1_b r1_l r1_c r2_b r2_l r2_c, e = .returned (.tuple #[.slice r0_b r0_l r0_c, .slice r1_b r1_l r1_c, .slice r2_b r2_l r2_c]) ∧ R r0_b r0_l r0_c r1_b r1_l r1_c r2_b r2_l r2_c w'
theorem conn_Conn_Peek.Call.mono {c} {w : World} {R R' : Option Addr → Nat → Nat → Option Addr → Nat → Nat → Option Addr → Nat → Nat → World → Prop} (h : conn_Conn_Peek.Call c w R) (hr : ∀ r0_b r0_l r0_c r1_b r1_l r1_c r2_b r2_l r2_c w', R r0_b r0_l r0_c r1_b r1_l r1_c r2_b r2_l r2_c w' → R' r0_b r0_l r0_c r1_b r1_l r1_c r2_b r2_l r2_c w') : conn_Conn_Peek.Call c w R' :=
  Calls.mono h fun e w' he => by
    obtain ⟨r0_b, r0_l, r0_c, r1_b, r1_l, r1_c, r2_b, r2_l, r2_c, h1, h2⟩ := he
    exact ⟨r0_b, r0_l, r0_c, r1_b, r1_l, r1_c, r2_b, r2_l, r2_c, h1, hr r0_b r0_l r0_c r1_b r1_l r1_c r2_b r2_l r2_c w' h2⟩
def conn_Conn_Peek.RV (R : Option Addr → Nat → Nat → Option Addr → Nat → Nat → Option Addr → Nat → Nat → World → Prop) (v : Value) (w : World) : Prop := match v with
  | .tuple ⟨[.slice r0_b r0_l r0_c, .slice r1_b r1_l r1_c, .slice r2_b r2_l r2_c]⟩ => R r0_b r0_l r0_c r1_b r1_l r1_c r2_b r2_l r2_c w
  | _ => False
theorem conn_Conn_Peek.RV_elim {R : Option Addr → Nat → Nat → Option Addr → Nat → Nat → Option Addr → Nat → Nat → World → Prop} {v : Value} {w : World} (h : conn_Conn_Peek.RV R v w) : ∃ r0_b r0_l r0_c r1_b r1_l r1_c r2_b r2_l r2_c, Ending.returned v = .returned (.tuple #[.slice r0_b r0_l r0_c, .slice r1_b r1_l r1_c, .slice r2_b r2_l r2_c]) ∧ R r0_b r0_l r0_c r1_b r1_l r1_c r2_b r2_l r2_c w := by
  unfold conn_Conn_Peek.RV at h
  split at h
  · exact ⟨_, _, _, _, _, _, _, _, _, rfl, h⟩
  · exact h.elim
/-- (*e2e/connm.Conn).Peek -/
def connm_Conn_Peek.Call (c : Option Addr) (w : World) (R : Option Addr → Nat → Nat → Option Addr → Nat → Nat → Option Addr → Nat → Nat → World → Prop) : Prop :=
  Calls Tryz.prog 27 #[.pointer c] w fun e w' => ∃ r0_b r0_l r0_c r1_b r1_l r1_c r2_b r2_l r2_c, e = .returned (.tuple #[.slice r0_b r0_l r0_c, .slice r1_b r1_l r1_c, .slice r2_b r2_l r2_c]) ∧ R r0_b r0_l r0_c r1_b r1_l r1_c r2_b r2_l r2_c w'
theorem connm_Conn_Peek.Call.mono {c} {w : World} {R R' : Option Addr → Nat → Nat → Option Addr → Nat → Nat → Option Addr → Nat → Nat → World → Prop} (h : connm_Conn_Peek.Call c w R) (hr : ∀ r0_b r0_l r0_c r1_b r1_l r1_c r2_b r2_l r2_c w', R r0_b r0_l r0_c r1_b r1_l r1_c r2_b r2_l r2_c w' → R' r0_b r0_l r0_c r1_b r1_l r1_c r2_b r2_l r2_c w') : connm_Conn_Peek.Call c w R' :=
  Calls.mono h fun e w' he => by
    obtain ⟨r0_b, r0_l, r0_c, r1_b, r1_l, r1_c, r2_b, r2_l, r2_c, h1, h2⟩ := he
    exact ⟨r0_b, r0_l, r0_c, r1_b, r1_l, r1_c, r2_b, r2_l, r2_c, h1, hr r0_b r0_l r0_c r1_b r1_l r1_c r2_b r2_l r2_c w' h2⟩
def connm_Conn_Peek.RV (R : Option Addr → Nat → Nat → Option Addr → Nat → Nat → Option Addr → Nat → Nat → World → Prop) (v : Value) (w : World) : Prop := match v with
  | .tuple ⟨[.slice r0_b r0_l r0_c, .slice r1_b r1_l r1_c, .slice r2_b r2_l r2_c]⟩ => R r0_b r0_l r0_c r1_b r1_l r1_c r2_b r2_l r2_c w
  | _ => False
theorem connm_Conn_Peek.RV_elim {R : Option Addr → Nat → Nat → Option Addr → Nat → Nat → Option Addr → Nat → Nat → World → Prop} {v : Value} {w : World} (h : connm_Conn_Peek.RV R v w) : ∃ r0_b r0_l r0_c r1_b r1_l r1_c r2_b r2_l r2_c, Ending.returned v = .returned (.tuple #[.slice r0_b r0_l r0_c, .slice r1_b r1_l r1_c, .slice r2_b r2_l r2_c]) ∧ R r0_b r0_l r0_c r1_b r1_l r1_c r2_b r2_l r2_c w := by
  unfold connm_Conn_Peek.RV at h
  split at h
  · exact ⟨_, _, _, _, _, _, _, _, _, rfl, h⟩
  · exact h.elim
/-- e2e/api.SameBytes -/
def api_SameBytes.Call (a_b : Option Addr) (a_l a_c : Nat) (b_b : Option Addr) (b_l b_c : Nat) (w : World) (R : Bool → World → Prop) : Prop :=
  Calls Tryz.prog 28 #[.slice a_b a_l a_c, .slice b_b b_l b_c] w fun e w' => ∃ r, e = .returned (.bool r) ∧ R r w'
theorem api_SameBytes.Call.mono {a_b a_l a_c b_b b_l b_c} {w : World} {R R' : Bool → World → Prop} (h : api_SameBytes.Call a_b a_l a_c b_b b_l b_c w R) (hr : ∀ r w', R r w' → R' r w') : api_SameBytes.Call a_b a_l a_c b_b b_l b_c w R' :=
  Calls.mono h fun e w' he => by
    obtain ⟨r, h1, h2⟩ := he
    exact ⟨r, h1, hr r w' h2⟩
def api_SameBytes.RV (R : Bool → World → Prop) (v : Value) (w : World) : Prop := match v with
  | .bool r => R r w
  | _ => False
theorem api_SameBytes.RV_elim {R : Bool → World → Prop} {v : Value} {w : World} (h : api_SameBytes.RV R v w) : ∃ r, Ending.returned v = .returned (.bool r) ∧ R r w := by
  unfold api_SameBytes.RV at h
  split at h
  · exact ⟨_, rfl, h⟩
  · exact h.elim
/-- e2e/connlaw.SameInts -/
def connlaw_SameInts.Call (a_b : Option Addr) (a_l a_c : Nat) (b_b : Option Addr) (b_l b_c : Nat) (w : World) (R : Bool → World → Prop) : Prop :=
  Calls Tryz.prog 29 #[.slice a_b a_l a_c, .slice b_b b_l b_c] w fun e w' => ∃ r, e = .returned (.bool r) ∧ R r w'
theorem connlaw_SameInts.Call.mono {a_b a_l a_c b_b b_l b_c} {w : World} {R R' : Bool → World → Prop} (h : connlaw_SameInts.Call a_b a_l a_c b_b b_l b_c w R) (hr : ∀ r w', R r w' → R' r w') : connlaw_SameInts.Call a_b a_l a_c b_b b_l b_c w R' :=
  Calls.mono h fun e w' he => by
    obtain ⟨r, h1, h2⟩ := he
    exact ⟨r, h1, hr r w' h2⟩
def connlaw_SameInts.RV (R : Bool → World → Prop) (v : Value) (w : World) : Prop := match v with
  | .bool r => R r w
  | _ => False
theorem connlaw_SameInts.RV_elim {R : Bool → World → Prop} {v : Value} {w : World} (h : connlaw_SameInts.RV R v w) : ∃ r, Ending.returned v = .returned (.bool r) ∧ R r w := by
  unfold connlaw_SameInts.RV at h
  split at h
  · exact ⟨_, rfl, h⟩
  · exact h.elim
/-- (*e2e/connlaw.World).Own -/
def connlaw_World_Own.Call (w0 b_b : Option Addr) (b_l b_c : Nat) (w : World) (R : World → Prop) : Prop :=
  Calls Tryz.prog 30 #[.pointer w0, .slice b_b b_l b_c] w fun e w' => e = .returned (.tuple #[]) ∧ R w'
theorem connlaw_World_Own.Call.mono {w0 b_b b_l b_c} {w : World} {R R' : World → Prop} (h : connlaw_World_Own.Call w0 b_b b_l b_c w R) (hr : ∀ w', R w' → R'  w') : connlaw_World_Own.Call w0 b_b b_l b_c w R' :=
  Calls.mono h fun e w' he => by
    obtain ⟨h1, h2⟩ := he
    exact ⟨h1, hr  w' h2⟩
def connlaw_World_Own.RV (R : World → Prop) (v : Value) (w : World) : Prop := match v with
  | .tuple ⟨[]⟩ => R w
  | _ => False
theorem connlaw_World_Own.RV_elim {R : World → Prop} {v : Value} {w : World} (h : connlaw_World_Own.RV R v w) : Ending.returned v = .returned (.tuple #[]) ∧ R w := by
  unfold connlaw_World_Own.RV at h
  split at h
  · exact ⟨rfl, h⟩
  · exact h.elim
/-- (*e2e/connlaw.World).OwnInts -/
def connlaw_World_OwnInts.Call (w0 l_b : Option Addr) (l_l l_c : Nat) (w : World) (R : World → Prop) : Prop :=
  Calls Tryz.prog 31 #[.pointer w0, .slice l_b l_l l_c] w fun e w' => e = .returned (.tuple #[]) ∧ R w'
theorem connlaw_World_OwnInts.Call.mono {w0 l_b l_l l_c} {w : World} {R R' : World → Prop} (h : connlaw_World_OwnInts.Call w0 l_b l_l l_c w R) (hr : ∀ w', R w' → R'  w') : connlaw_World_OwnInts.Call w0 l_b l_l l_c w R' :=
  Calls.mono h fun e w' he => by
    obtain ⟨h1, h2⟩ := he
    exact ⟨h1, hr  w' h2⟩
def connlaw_World_OwnInts.RV (R : World → Prop) (v : Value) (w : World) : Prop := match v with
  | .tuple ⟨[]⟩ => R w
  | _ => False
theorem connlaw_World_OwnInts.RV_elim {R : World → Prop} {v : Value} {w : World} (h : connlaw_World_OwnInts.RV R v w) : Ending.returned v = .returned (.tuple #[]) ∧ R w := by
  unfold connlaw_World_OwnInts.RV at h
  split at h
  · exact ⟨rfl, h⟩
  · exact h.elim
/-- (*e2e/conn.Conn).flying -/
def conn_Conn_flying.Call (c : Option Addr) (w : World) (R : Int → World → Prop) : Prop :=
  Calls Tryz.prog 32 #[.pointer c] w fun e w' => ∃ r, e = .returned (.int .i64 r) ∧ R r w'
theorem conn_Conn_flying.Call.mono {c} {w : World} {R R' : Int → World → Prop} (h : conn_Conn_flying.Call c w R) (hr : ∀ r w', R r w' → R' r w') : conn_Conn_flying.Call c w R' :=
  Calls.mono h fun e w' he => by
    obtain ⟨r, h1, h2⟩ := he
    exact ⟨r, h1, hr r w' h2⟩
def conn_Conn_flying.RV (R : Int → World → Prop) (v : Value) (w : World) : Prop := match v with
  | .int .i64 r => R r w
  | _ => False
theorem conn_Conn_flying.RV_elim {R : Int → World → Prop} {v : Value} {w : World} (h : conn_Conn_flying.RV R v w) : ∃ r, Ending.returned v = .returned (.int .i64 r) ∧ R r w := by
  unfold conn_Conn_flying.RV at h
  split at h
  · exact ⟨_, rfl, h⟩
  · exact h.elim
/-- (*e2e/connlaw.World).Feed -/
def connlaw_World_Feed.Call (w0 : Option Addr) (c s_0 s_1 s_2 s_3 s_4 s_5 : Int) (s_6_b : Option Addr) (s_6_l s_6_c : Nat) (w : World) (R : Bool → World → Prop) : Prop :=
  Calls Tryz.prog 33 #[.pointer w0, .int .i64 c, .agg #[.int .i64 s_0, .int .i64 s_1, .int .i64 s_2, .int .i64 s_3, .int .i64 s_4, .int .i64 s_5, .slice s_6_b s_6_l s_6_c]] w fun e w' => ∃ r, e = .returned (.bool r) ∧ R r w'
theorem connlaw_World_Feed.Call.mono {w0 c s_0 s_1 s_2 s_3 s_4 s_5 s_6_b s_6_l s_6_c} {w : World} {R R' : Bool → World → Prop} (h : connlaw_World_Feed.Call w0 c s_0 s_1 s_2 s_3 s_4 s_5 s_6_b s_6_l s_6_c w R) (hr : ∀ r w', R r w' → R' r w') : connlaw_World_Feed.Call w0 c s_0 s_1 s_2 s_3 s_4 s_5 s_6_b s_6_l s_6_c w R' :=
  Calls.mono h fun e w' he => by
    obtain ⟨r, h1, h2⟩ := he
    exact ⟨r, h1, hr r w' h2⟩
def connlaw_World_Feed.RV (R : Bool → World → Prop) (v : Value) (w : World) : Prop := match v with
  | .bool r => R r w
  | _ => False
theorem connlaw_World_Feed.RV_elim {R : Bool → World → Prop} {v : Value} {w : World} (h : connlaw_World_Feed.RV R v w) : ∃ r, Ending.returned v = .returned (.bool r) ∧ R r w := by
  unfold connlaw_World_Feed.RV at h
  split at h
  · exact ⟨_, rfl, h⟩
  · exact h.elim
/-- (*e2e/conn.Conn).OpenActive -/
def conn_Conn_OpenActive.Call (c : Option Addr) (iss : Int) (w : World) (R : Option Addr → Nat → Nat → Int → World → Prop) : Prop :=
  Calls Tryz.prog 34 #[.pointer c, .int .i64 iss] w fun e w' => ∃ r0_b r0_l r0_c r1, e = .returned (.tuple #[.slice r0_b r0_l r0_c, .int .i64 r1]) ∧ R r0_b r0_l r0_c r1 w'
theorem conn_Conn_OpenActive.Call.mono {c iss} {w : World} {R R' : Option Addr → Nat → Nat → Int → World → Prop} (h : conn_Conn_OpenActive.Call c iss w R) (hr : ∀ r0_b r0_l r0_c r1 w', R r0_b r0_l r0_c r1 w' → R' r0_b r0_l r0_c r1 w') : conn_Conn_OpenActive.Call c iss w R' :=
  Calls.mono h fun e w' he => by
    obtain ⟨r0_b, r0_l, r0_c, r1, h1, h2⟩ := he
    exact ⟨r0_b, r0_l, r0_c, r1, h1, hr r0_b r0_l r0_c r1 w' h2⟩
def conn_Conn_OpenActive.RV (R : Option Addr → Nat → Nat → Int → World → Prop) (v : Value) (w : World) : Prop := match v with
  | .tuple ⟨[.slice r0_b r0_l r0_c, .int .i64 r1]⟩ => R r0_b r0_l r0_c r1 w
  | _ => False
theorem conn_Conn_OpenActive.RV_elim {R : Option Addr → Nat → Nat → Int → World → Prop} {v : Value} {w : World} (h : conn_Conn_OpenActive.RV R v w) : ∃ r0_b r0_l r0_c r1, Ending.returned v = .returned (.tuple #[.slice r0_b r0_l r0_c, .int .i64 r1]) ∧ R r0_b r0_l r0_c r1 w := by
  unfold conn_Conn_OpenActive.RV at h
  split at h
  · exact ⟨_, _, _, _, rfl, h⟩
  · exact h.elim
/-- (*e2e/connm.Conn).OpenActive -/
def connm_Conn_OpenActive.Call (c : Option Addr) (iss : Int) (w : World) (R : Option Addr → Nat → Nat → Int → World → Prop) : Prop :=
  Calls Tryz.prog 35 #[.pointer c, .int .i64 iss] w fun e w' => ∃ r0_b r0_l r0_c r1, e = .returned (.tuple #[.slice r0_b r0_l r0_c, .int .i64 r1]) ∧ R r0_b r0_l r0_c r1 w'
theorem connm_Conn_OpenActive.Call.mono {c iss} {w : World} {R R' : Option Addr → Nat → Nat → Int → World → Prop} (h : connm_Conn_OpenActive.Call c iss w R) (hr : ∀ r0_b r0_l r0_c r1 w', R r0_b r0_l r0_c r1 w' → R' r0_b r0_l r0_c r1 w') : connm_Conn_OpenActive.Call c iss w R' :=
  Calls.mono h fun e w' he => by
    obtain ⟨r0_b, r0_l, r0_c, r1, h1, h2⟩ := he
    exact ⟨r0_b, r0_l, r0_c, r1, h1, hr r0_b r0_l r0_c r1 w' h2⟩
def connm_Conn_OpenActive.RV (R : Option Addr → Nat → Nat → Int → World → Prop) (v : Value) (w : World) : Prop := match v with
  | .tuple ⟨[.slice r0_b r0_l r0_c, .int .i64 r1]⟩ => R r0_b r0_l r0_c r1 w
  | _ => False
theorem connm_Conn_OpenActive.RV_elim {R : Option Addr → Nat → Nat → Int → World → Prop} {v : Value} {w : World} (h : connm_Conn_OpenActive.RV R v w) : ∃ r0_b r0_l r0_c r1, Ending.returned v = .returned (.tuple #[.slice r0_b r0_l r0_c, .int .i64 r1]) ∧ R r0_b r0_l r0_c r1 w := by
  unfold connm_Conn_OpenActive.RV at h
  split at h
  · exact ⟨_, _, _, _, rfl, h⟩
  · exact h.elim
/-- (*e2e/connlaw.World).Out -/
def connlaw_World_Out.Call (w0 a_b : Option Addr) (a_l a_c : Nat) (b_b : Option Addr) (b_l b_c : Nat) (w : World) (R : Bool → World → Prop) : Prop :=
  Calls Tryz.prog 36 #[.pointer w0, .slice a_b a_l a_c, .slice b_b b_l b_c] w fun e w' => ∃ r, e = .returned (.bool r) ∧ R r w'
theorem connlaw_World_Out.Call.mono {w0 a_b a_l a_c b_b b_l b_c} {w : World} {R R' : Bool → World → Prop} (h : connlaw_World_Out.Call w0 a_b a_l a_c b_b b_l b_c w R) (hr : ∀ r w', R r w' → R' r w') : connlaw_World_Out.Call w0 a_b a_l a_c b_b b_l b_c w R' :=
  Calls.mono h fun e w' he => by
    obtain ⟨r, h1, h2⟩ := he
    exact ⟨r, h1, hr r w' h2⟩
def connlaw_World_Out.RV (R : Bool → World → Prop) (v : Value) (w : World) : Prop := match v with
  | .bool r => R r w
  | _ => False
theorem connlaw_World_Out.RV_elim {R : Bool → World → Prop} {v : Value} {w : World} (h : connlaw_World_Out.RV R v w) : ∃ r, Ending.returned v = .returned (.bool r) ∧ R r w := by
  unfold connlaw_World_Out.RV at h
  split at h
  · exact ⟨_, rfl, h⟩
  · exact h.elim
/-- (*e2e/connlaw.World).Passive -/
def connlaw_World_Passive.Call (w0 : Option Addr) (c iss s_0 s_1 s_2 s_3 s_4 s_5 : Int) (s_6_b : Option Addr) (s_6_l s_6_c : Nat) (w : World) (R : Bool → World → Prop) : Prop :=
  Calls Tryz.prog 37 #[.pointer w0, .int .i64 c, .int .i64 iss, .agg #[.int .i64 s_0, .int .i64 s_1, .int .i64 s_2, .int .i64 s_3, .int .i64 s_4, .int .i64 s_5, .slice s_6_b s_6_l s_6_c]] w fun e w' => ∃ r, e = .returned (.bool r) ∧ R r w'
theorem connlaw_World_Passive.Call.mono {w0 c iss s_0 s_1 s_2 s_3 s_4 s_5 s_6_b s_6_l s_6_c} {w : World} {R R' : Bool → World → Prop} (h : connlaw_World_Passive.Call w0 c iss s_0 s_1 s_2 s_3 s_4 s_5 s_6_b s_6_l s_6_c w R) (hr : ∀ r w', R r w' → R' r w') : connlaw_World_Passive.Call w0 c iss s_0 s_1 s_2 s_3 s_4 s_5 s_6_b s_6_l s_6_c w R' :=
  Calls.mono h fun e w' he => by
    obtain ⟨r, h1, h2⟩ := he
    exact ⟨r, h1, hr r w' h2⟩
def connlaw_World_Passive.RV (R : Bool → World → Prop) (v : Value) (w : World) : Prop := match v with
  | .bool r => R r w
  | _ => False
theorem connlaw_World_Passive.RV_elim {R : Bool → World → Prop} {v : Value} {w : World} (h : connlaw_World_Passive.RV R v w) : ∃ r, Ending.returned v = .returned (.bool r) ∧ R r w := by
  unfold connlaw_World_Passive.RV at h
  split at h
  · exact ⟨_, rfl, h⟩
  · exact h.elim
/-- (*e2e/conn.Conn).Tick -/
def conn_Conn_Tick.Call (c : Option Addr) (w : World) (R : Option Addr → Nat → Nat → World → Prop) : Prop :=
  Calls Tryz.prog 38 #[.pointer c] w fun e w' => ∃ r_b r_l r_c, e = .returned (.slice r_b r_l r_c) ∧ R r_b r_l r_c w'
theorem conn_Conn_Tick.Call.mono {c} {w : World} {R R' : Option Addr → Nat → Nat → World → Prop} (h : conn_Conn_Tick.Call c w R) (hr : ∀ r_b r_l r_c w', R r_b r_l r_c w' → R' r_b r_l r_c w') : conn_Conn_Tick.Call c w R' :=
  Calls.mono h fun e w' he => by
    obtain ⟨r_b, r_l, r_c, h1, h2⟩ := he
    exact ⟨r_b, r_l, r_c, h1, hr r_b r_l r_c w' h2⟩
def conn_Conn_Tick.RV (R : Option Addr → Nat → Nat → World → Prop) (v : Value) (w : World) : Prop := match v with
  | .slice r_b r_l r_c => R r_b r_l r_c w
  | _ => False
theorem conn_Conn_Tick.RV_elim {R : Option Addr → Nat → Nat → World → Prop} {v : Value} {w : World} (h : conn_Conn_Tick.RV R v w) : ∃ r_b r_l r_c, Ending.returned v = .returned (.slice r_b r_l r_c) ∧ R r_b r_l r_c w := by
  unfold conn_Conn_Tick.RV at h
  split at h
  · exact ⟨_, _, _, rfl, h⟩
  · exact h.elim
/-- (*e2e/connm.Conn).Tick -/
def connm_Conn_Tick.Call (c : Option Addr) (w : World) (R : Option Addr → Nat → Nat → World → Prop) : Prop :=
  Calls Tryz.prog 39 #[.pointer c] w fun e w' => ∃ r_b r_l r_c, e = .returned (.slice r_b r_l r_c) ∧ R r_b r_l r_c w'
theorem connm_Conn_Tick.Call.mono {c} {w : World} {R R' : Option Addr → Nat → Nat → World → Prop} (h : connm_Conn_Tick.Call c w R) (hr : ∀ r_b r_l r_c w', R r_b r_l r_c w' → R' r_b r_l r_c w') : connm_Conn_Tick.Call c w R' :=
  Calls.mono h fun e w' he => by
    obtain ⟨r_b, r_l, r_c, h1, h2⟩ := he
    exact ⟨r_b, r_l, r_c, h1, hr r_b r_l r_c w' h2⟩
def connm_Conn_Tick.RV (R : Option Addr → Nat → Nat → World → Prop) (v : Value) (w : World) : Prop := match v with
  | .slice r_b r_l r_c => R r_b r_l r_c w
  | _ => False
theorem connm_Conn_Tick.RV_elim {R : Option Addr → Nat → Nat → World → Prop} {v : Value} {w : World} (h : connm_Conn_Tick.RV R v w) : ∃ r_b r_l r_c, Ending.returned v = .returned (.slice r_b r_l r_c) ∧ R r_b r_l r_c w := by
  unfold connm_Conn_Tick.RV at h
  split at h
  · exact ⟨_, _, _, rfl, h⟩
  · exact h.elim
/-- (*e2e/conn.Conn).Close -/
def conn_Conn_Close.Call (c : Option Addr) (w : World) (R : Option Addr → Nat → Nat → Int → World → Prop) : Prop :=
  Calls Tryz.prog 40 #[.pointer c] w fun e w' => ∃ r0_b r0_l r0_c r1, e = .returned (.tuple #[.slice r0_b r0_l r0_c, .int .i64 r1]) ∧ R r0_b r0_l r0_c r1 w'
theorem conn_Conn_Close.Call.mono {c} {w : World} {R R' : Option Addr → Nat → Nat → Int → World → Prop} (h : conn_Conn_Close.Call c w R) (hr : ∀ r0_b r0_l r0_c r1 w', R r0_b r0_l r0_c r1 w' → R' r0_b r0_l r0_c r1 w') : conn_Conn_Close.Call c w R' :=
  Calls.mono h fun e w' he => by
    obtain ⟨r0_b, r0_l, r0_c, r1, h1, h2⟩ := he
    exact ⟨r0_b, r0_l, r0_c, r1, h1, hr r0_b r0_l r0_c r1 w' h2⟩
def conn_Conn_Close.RV (R : Option Addr → Nat → Nat → Int → World → Prop) (v : Value) (w : World) : Prop := match v with
  | .tuple ⟨[.slice r0_b r0_l r0_c, .int .i64 r1]⟩ => R r0_b r0_l r0_c r1 w
  | _ => False
theorem conn_Conn_Close.RV_elim {R : Option Addr → Nat → Nat → Int → World → Prop} {v : Value} {w : World} (h : conn_Conn_Close.RV R v w) : ∃ r0_b r0_l r0_c r1, Ending.returned v = .returned (.tuple #[.slice r0_b r0_l r0_c, .int .i64 r1]) ∧ R r0_b r0_l r0_c r1 w := by
  unfold conn_Conn_Close.RV at h
  split at h
  · exact ⟨_, _, _, _, rfl, h⟩
  · exact h.elim
/-- (*e2e/connm.Conn).Close -/
def connm_Conn_Close.Call (c : Option Addr) (w : World) (R : Option Addr → Nat → Nat → Int → World → Prop) : Prop :=
  Calls Tryz.prog 41 #[.pointer c] w fun e w' => ∃ r0_b r0_l r0_c r1, e = .returned (.tuple #[.slice r0_b r0_l r0_c, .int .i64 r1]) ∧ R r0_b r0_l r0_c r1 w'
theorem connm_Conn_Close.Call.mono {c} {w : World} {R R' : Option Addr → Nat → Nat → Int → World → Prop} (h : connm_Conn_Close.Call c w R) (hr : ∀ r0_b r0_l r0_c r1 w', R r0_b r0_l r0_c r1 w' → R' r0_b r0_l r0_c r1 w') : connm_Conn_Close.Call c w R' :=
  Calls.mono h fun e w' he => by
    obtain ⟨r0_b, r0_l, r0_c, r1, h1, h2⟩ := he
    exact ⟨r0_b, r0_l, r0_c, r1, h1, hr r0_b r0_l r0_c r1 w' h2⟩
def connm_Conn_Close.RV (R : Option Addr → Nat → Nat → Int → World → Prop) (v : Value) (w : World) : Prop := match v with
  | .tuple ⟨[.slice r0_b r0_l r0_c, .int .i64 r1]⟩ => R r0_b r0_l r0_c r1 w
  | _ => False
theorem connm_Conn_Close.RV_elim {R : Option Addr → Nat → Nat → Int → World → Prop} {v : Value} {w : World} (h : connm_Conn_Close.RV R v w) : ∃ r0_b r0_l r0_c r1, Ending.returned v = .returned (.tuple #[.slice r0_b r0_l r0_c, .int .i64 r1]) ∧ R r0_b r0_l r0_c r1 w := by
  unfold connm_Conn_Close.RV at h
  split at h
  · exact ⟨_, _, _, _, rfl, h⟩
  · exact h.elim
/-- (*e2e/conn.Conn).Send -/
def conn_Conn_Send.Call (c p_b : Option Addr) (p_l p_c : Nat) (w : World) (R : Int → Option Addr → Nat → Nat → Int → World → Prop) : Prop :=
  Calls Tryz.prog 42 #[.pointer c, .slice p_b p_l p_c] w fun e w' => ∃ r0 r1_b r1_l r1_c r2, e = .returned (.tuple #[.int .i64 r0, .slice r1_b r1_l r1_c, .int .i64 r2]) ∧ R r0 r1_b r1_l r1_c r2 w'
theorem conn_Conn_Send.Call.mono {c p_b p_l p_c} {w : World} {R R' : Int → Option Addr → Nat → Nat → Int → World → Prop} (h : conn_Conn_Send.Call c p_b p_l p_c w R) (hr : ∀ r0 r1_b r1_l r1_c r2 w', R r0 r1_b r1_l r1_c r2 w' → R' r0 r1_b r1_l r1_c r2 w') : conn_Conn_Send.Call c p_b p_l p_c w R' :=
  Calls.mono h fun e w' he => by
    obtain ⟨r0, r1_b, r1_l, r1_c, r2, h1, h2⟩ := he
    exact ⟨r0, r1_b, r1_l, r1_c, r2, h1, hr r0 r1_b r1_l r1_c r2 w' h2⟩
def conn_Conn_Send.RV (R : Int → Option Addr → Nat → Nat → Int → World → Prop) (v : Value) (w : World) : Prop := match v with
  | .tuple ⟨[.int .i64 r0, .slice r1_b r1_l r1_c, .int .i64 r2]⟩ => R r0 r1_b r1_l r1_c r2 w
  | _ => False
theorem conn_Conn_Send.RV_elim {R : Int → Option Addr → Nat → Nat → Int → World → Prop} {v : Value} {w : World} (h : conn_Conn_Send.RV R v w) : ∃ r0 r1_b r1_l r1_c r2, Ending.returned v = .returned (.tuple #[.int .i64 r0, .slice r1_b r1_l r1_c, .int .i64 r2]) ∧ R r0 r1_b r1_l r1_c r2 w := by
  unfold conn_Conn_Send.RV at h
  split at h
  · exact ⟨_, _, _, _, _, rfl, h⟩
  · exact h.elim
/-- (*e2e/connm.Conn).Send -/
def connm_Conn_Send.Call (c p_b : Option Addr) (p_l p_c : Nat) (w : World) (R : Int → Option Addr → Nat → Nat → Int → World → Prop) : Prop :=
  Calls Tryz.prog 43 #[.pointer c, .slice p_b p_l p_c] w fun e w' => ∃ r0 r1_b r1_l r1_c r2, e = .returned (.tuple #[.int .i64 r0, .slice r1_b r1_l r1_c, .int .i64 r2]) ∧ R r0 r1_b r1_l r1_c r2 w'
theorem connm_Conn_Send.Call.mono {c p_b p_l p_c} {w : World} {R R' : Int → Option Addr → Nat → Nat → Int → World → Prop} (h : connm_Conn_Send.Call c p_b p_l p_c w R) (hr : ∀ r0 r1_b r1_l r1_c r2 w', R r0 r1_b r1_l r1_c r2 w' → R' r0 r1_b r1_l r1_c r2 w') : connm_Conn_Send.Call c p_b p_l p_c w R' :=
  Calls.mono h fun e w' he => by
    obtain ⟨r0, r1_b, r1_l, r1_c, r2, h1, h2⟩ := he
    exact ⟨r0, r1_b, r1_l, r1_c, r2, h1, hr r0 r1_b r1_l r1_c r2 w' h2⟩
def connm_Conn_Send.RV (R : Int → Option Addr → Nat → Nat → Int → World → Prop) (v : Value) (w : World) : Prop := match v with
  | .tuple ⟨[.int .i64 r0, .slice r1_b r1_l r1_c, .int .i64 r2]⟩ => R r0 r1_b r1_l r1_c r2 w
  | _ => False
theorem connm_Conn_Send.RV_elim {R : Int → Option Addr → Nat → Nat → Int → World → Prop} {v : Value} {w : World} (h : connm_Conn_Send.RV R v w) : ∃ r0 r1_b r1_l r1_c r2, Ending.returned v = .returned (.tuple #[.int .i64 r0, .slice r1_b r1_l r1_c, .int .i64 r2]) ∧ R r0 r1_b r1_l r1_c r2 w := by
  unfold connm_Conn_Send.RV at h
  split at h
  · exact ⟨_, _, _, _, _, rfl, h⟩
  · exact h.elim
/-- e2e/connlaw.Scribble -/
def connlaw_Scribble.Call (b_b : Option Addr) (b_l b_c : Nat) (w : World) (R : World → Prop) : Prop :=
  Calls Tryz.prog 44 #[.slice b_b b_l b_c] w fun e w' => e = .returned (.tuple #[]) ∧ R w'
theorem connlaw_Scribble.Call.mono {b_b b_l b_c} {w : World} {R R' : World → Prop} (h : connlaw_Scribble.Call b_b b_l b_c w R) (hr : ∀ w', R w' → R'  w') : connlaw_Scribble.Call b_b b_l b_c w R' :=
  Calls.mono h fun e w' he => by
    obtain ⟨h1, h2⟩ := he
    exact ⟨h1, hr  w' h2⟩
def connlaw_Scribble.RV (R : World → Prop) (v : Value) (w : World) : Prop := match v with
  | .tuple ⟨[]⟩ => R w
  | _ => False
theorem connlaw_Scribble.RV_elim {R : World → Prop} {v : Value} {w : World} (h : connlaw_Scribble.RV R v w) : Ending.returned v = .returned (.tuple #[]) ∧ R w := by
  unfold connlaw_Scribble.RV at h
  split at h
  · exact ⟨rfl, h⟩
  · exact h.elim
/-- (*e2e/conn.Conn).Recv -/
def conn_Conn_Recv.Call (c : Option Addr) (max : Int) (w : World) (R : Option Addr → Nat → Nat → Option Addr → Nat → Nat → Int → World → Prop) : Prop :=
  Calls Tryz.prog 45 #[.pointer c, .int .i64 max] w fun e w' => ∃ r0_b r0_l r0_c r1_b r1_l r1_c r2, e = .returned (.tuple #[.slice r0_b r0_l r0_c, .slice r1_b r1_l r1_c, .int .i64 r2]) ∧ R r0_b r0_l r0_c r1_b r1_l r1_c r2 w'
theorem conn_Conn_Recv.Call.mono {c max} {w : World} {R R' : Option Addr → Nat → Nat → Option Addr → Nat → Nat → Int → World → Prop} (h : conn_Conn_Recv.Call c max w R) (hr : ∀ r0_b r0_l r0_c r1_b r1_l r1_c r2 w', R r0_b r0_l r0_c r1_b r1_l r1_c r2 w' → R' r0_b r0_l r0_c r1_b r1_l r1_c r2 w') : conn_Conn_Recv.Call c max w R' :=
  Calls.mono h fun e w' he => by
    obtain ⟨r0_b, r0_l, r0_c, r1_b, r1_l, r1_c, r2, h1, h2⟩ := he
    exact ⟨r0_b, r0_l, r0_c, r1_b, r1_l, r1_c, r2, h1, hr r0_b r0_l r0_c r1_b r1_l r1_c r2 w' h2⟩
def conn_Conn_Recv.RV (R : Option Addr → Nat → Nat → Option Addr → Nat → Nat → Int → World → Prop) (v : Value) (w : World) : Prop := match v with
  | .tuple ⟨[.slice r0_b r0_l r0_c, .slice r1_b r1_l r1_c, .int .i64 r2]⟩ => R r0_b r0_l r0_c r1_b r1_l r1_c r2 w
  | _ => False
theorem conn_Conn_Recv.RV_elim {R : Option Addr → Nat → Nat → Option Addr → Nat → Nat → Int → World → Prop} {v : Value} {w : World} (h : conn_Conn_Recv.RV R v w) : ∃ r0_b r0_l r0_c r1_b r1_l r1_c r2, Ending.returned v = .returned (.tuple #[.slice r0_b r0_l r0_c, .slice r1_b r1_l r1_c, .int .i64 r2]) ∧ R r0_b r0_l r0_c r1_b r1_l r1_c r2 w := by
  unfold conn_Conn_Recv.RV at h
  split at h
  · exact ⟨_, _, _, _, _, _, _, rfl, h⟩
  · exact h.elim
/-- (*e2e/connm.Conn).Recv -/
def connm_Conn_Recv.Call (c : Option Addr) (max : Int) (w : World) (R : Option Addr → Nat → Nat → Option Addr → Nat → Nat → Int → World → Prop) : Prop :=
  Calls Tryz.prog 46 #[.pointer c, .int .i64 max] w fun e w' => ∃ r0_b r0_l r0_c r1_b r1_l r1_c r2, e = .returned (.tuple #[.slice r0_b r0_l r0_c, .slice r1_b r1_l r1_c, .int .i64 r2]) ∧ R r0_b r0_l r0_c r1_b r1_l r1_c r2 w'
theorem connm_Conn_Recv.Call.mono {c max} {w : World} {R R' : Option Addr → Nat → Nat → Option Addr → Nat → Nat → Int → World → Prop} (h : connm_Conn_Recv.Call c max w R) (hr : ∀ r0_b r0_l r0_c r1_b r1_l r1_c r2 w', R r0_b r0_l r0_c r1_b r1_l r1_c r2 w' → R' r0_b r0_l r0_c r1_b r1_l r1_c r2 w') : connm_Conn_Recv.Call c max w R' :=
  Calls.mono h fun e w' he => by
    obtain ⟨r0_b, r0_l, r0_c, r1_b, r1_l, r1_c, r2, h1, h2⟩ := he
    exact ⟨r0_b, r0_l, r0_c, r1_b, r1_l, r1_c, r2, h1, hr r0_b r0_l r0_c r1_b r1_l r1_c r2 w' h2⟩
def connm_Conn_Recv.RV (R : Option Addr → Nat → Nat → Option Addr → Nat → Nat → Int → World → Prop) (v : Value) (w : World) : Prop := match v with
  | .tuple ⟨[.slice r0_b r0_l r0_c, .slice r1_b r1_l r1_c, .int .i64 r2]⟩ => R r0_b r0_l r0_c r1_b r1_l r1_c r2 w
  | _ => False
theorem connm_Conn_Recv.RV_elim {R : Option Addr → Nat → Nat → Option Addr → Nat → Nat → Int → World → Prop} {v : Value} {w : World} (h : connm_Conn_Recv.RV R v w) : ∃ r0_b r0_l r0_c r1_b r1_l r1_c r2, Ending.returned v = .returned (.tuple #[.slice r0_b r0_l r0_c, .slice r1_b r1_l r1_c, .int .i64 r2]) ∧ R r0_b r0_l r0_c r1_b r1_l r1_c r2 w := by
  unfold connm_Conn_Recv.RV at h
  split at h
  · exact ⟨_, _, _, _, _, _, _, rfl, h⟩
  · exact h.elim
/-- (*e2e/conn.Conn).Abort -/
def conn_Conn_Abort.Call (c : Option Addr) (w : World) (R : Option Addr → Nat → Nat → Int → World → Prop) : Prop :=
  Calls Tryz.prog 47 #[.pointer c] w fun e w' => ∃ r0_b r0_l r0_c r1, e = .returned (.tuple #[.slice r0_b r0_l r0_c, .int .i64 r1]) ∧ R r0_b r0_l r0_c r1 w'
theorem conn_Conn_Abort.Call.mono {c} {w : World} {R R' : Option Addr → Nat → Nat → Int → World → Prop} (h : conn_Conn_Abort.Call c w R) (hr : ∀ r0_b r0_l r0_c r1 w', R r0_b r0_l r0_c r1 w' → R' r0_b r0_l r0_c r1 w') : conn_Conn_Abort.Call c w R' :=
  Calls.mono h fun e w' he => by
    obtain ⟨r0_b, r0_l, r0_c, r1, h1, h2⟩ := he
    exact ⟨r0_b, r0_l, r0_c, r1, h1, hr r0_b r0_l r0_c r1 w' h2⟩
def conn_Conn_Abort.RV (R : Option Addr → Nat → Nat → Int → World → Prop) (v : Value) (w : World) : Prop := match v with
  | .tuple ⟨[.slice r0_b r0_l r0_c, .int .i64 r1]⟩ => R r0_b r0_l r0_c r1 w
  | _ => False
theorem conn_Conn_Abort.RV_elim {R : Option Addr → Nat → Nat → Int → World → Prop} {v : Value} {w : World} (h : conn_Conn_Abort.RV R v w) : ∃ r0_b r0_l r0_c r1, Ending.returned v = .returned (.tuple #[.slice r0_b r0_l r0_c, .int .i64 r1]) ∧ R r0_b r0_l r0_c r1 w := by
  unfold conn_Conn_Abort.RV at h
  split at h
  · exact ⟨_, _, _, _, rfl, h⟩
  · exact h.elim
/-- (*e2e/connm.Conn).Abort -/
def connm_Conn_Abort.Call (c : Option Addr) (w : World) (R : Option Addr → Nat → Nat → Int → World → Prop) : Prop :=
  Calls Tryz.prog 48 #[.pointer c] w fun e w' => ∃ r0_b r0_l r0_c r1, e = .returned (.tuple #[.slice r0_b r0_l r0_c, .int .i64 r1]) ∧ R r0_b r0_l r0_c r1 w'
theorem connm_Conn_Abort.Call.mono {c} {w : World} {R R' : Option Addr → Nat → Nat → Int → World → Prop} (h : connm_Conn_Abort.Call c w R) (hr : ∀ r0_b r0_l r0_c r1 w', R r0_b r0_l r0_c r1 w' → R' r0_b r0_l r0_c r1 w') : connm_Conn_Abort.Call c w R' :=
  Calls.mono h fun e w' he => by
    obtain ⟨r0_b, r0_l, r0_c, r1, h1, h2⟩ := he
    exact ⟨r0_b, r0_l, r0_c, r1, h1, hr r0_b r0_l r0_c r1 w' h2⟩
def connm_Conn_Abort.RV (R : Option Addr → Nat → Nat → Int → World → Prop) (v : Value) (w : World) : Prop := match v with
  | .tuple ⟨[.slice r0_b r0_l r0_c, .int .i64 r1]⟩ => R r0_b r0_l r0_c r1 w
  | _ => False
theorem connm_Conn_Abort.RV_elim {R : Option Addr → Nat → Nat → Int → World → Prop} {v : Value} {w : World} (h : connm_Conn_Abort.RV R v w) : ∃ r0_b r0_l r0_c r1, Ending.returned v = .returned (.tuple #[.slice r0_b r0_l r0_c, .int .i64 r1]) ∧ R r0_b r0_l r0_c r1 w := by
  unfold connm_Conn_Abort.RV at h
  split at h
  · exact ⟨_, _, _, _, rfl, h⟩
  · exact h.elim
/-- (*e2e/seg.SendBuf).Bytes -/
def seg_SendBuf_Bytes.Call (b : Option Addr) (w : World) (R : Option Addr → Nat → Nat → World → Prop) : Prop :=
  Calls Tryz.prog 49 #[.pointer b] w fun e w' => ∃ r_b r_l r_c, e = .returned (.slice r_b r_l r_c) ∧ R r_b r_l r_c w'
theorem seg_SendBuf_Bytes.Call.mono {b} {w : World} {R R' : Option Addr → Nat → Nat → World → Prop} (h : seg_SendBuf_Bytes.Call b w R) (hr : ∀ r_b r_l r_c w', R r_b r_l r_c w' → R' r_b r_l r_c w') : seg_SendBuf_Bytes.Call b w R' :=
  Calls.mono h fun e w' he => by
    obtain ⟨r_b, r_l, r_c, h1, h2⟩ := he
    exact ⟨r_b, r_l, r_c, h1, hr r_b r_l r_c w' h2⟩
def seg_SendBuf_Bytes.RV (R : Option Addr → Nat → Nat → World → Prop) (v : Value) (w : World) : Prop := match v with
  | .slice r_b r_l r_c => R r_b r_l r_c w
  | _ => False
theorem seg_SendBuf_Bytes.RV_elim {R : Option Addr → Nat → Nat → World → Prop} {v : Value} {w : World} (h : seg_SendBuf_Bytes.RV R v w) : ∃ r_b r_l r_c, Ending.returned v = .returned (.slice r_b r_l r_c) ∧ R r_b r_l r_c w := by
  unfold seg_SendBuf_Bytes.RV at h
  split at h
  · exact ⟨_, _, _, rfl, h⟩
  · exact h.elim
/-- (*e2e/seg.RecvBuf).Bytes -/
def seg_RecvBuf_Bytes.Call (b : Option Addr) (w : World) (R : Option Addr → Nat → Nat → World → Prop) : Prop :=
  Calls Tryz.prog 50 #[.pointer b] w fun e w' => ∃ r_b r_l r_c, e = .returned (.slice r_b r_l r_c) ∧ R r_b r_l r_c w'
theorem seg_RecvBuf_Bytes.Call.mono {b} {w : World} {R R' : Option Addr → Nat → Nat → World → Prop} (h : seg_RecvBuf_Bytes.Call b w R) (hr : ∀ r_b r_l r_c w', R r_b r_l r_c w' → R' r_b r_l r_c w') : seg_RecvBuf_Bytes.Call b w R' :=
  Calls.mono h fun e w' he => by
    obtain ⟨r_b, r_l, r_c, h1, h2⟩ := he
    exact ⟨r_b, r_l, r_c, h1, hr r_b r_l r_c w' h2⟩
def seg_RecvBuf_Bytes.RV (R : Option Addr → Nat → Nat → World → Prop) (v : Value) (w : World) : Prop := match v with
  | .slice r_b r_l r_c => R r_b r_l r_c w
  | _ => False
theorem seg_RecvBuf_Bytes.RV_elim {R : Option Addr → Nat → Nat → World → Prop} {v : Value} {w : World} (h : seg_RecvBuf_Bytes.RV R v w) : ∃ r_b r_l r_c, Ending.returned v = .returned (.slice r_b r_l r_c) ∧ R r_b r_l r_c w := by
  unfold seg_RecvBuf_Bytes.RV at h
  split at h
  · exact ⟨_, _, _, rfl, h⟩
  · exact h.elim
/-- (*e2e/seg.RecvBuf).Ahead -/
def seg_RecvBuf_Ahead.Call (b : Option Addr) (w : World) (R : Option Addr → Nat → Nat → World → Prop) : Prop :=
  Calls Tryz.prog 51 #[.pointer b] w fun e w' => ∃ r_b r_l r_c, e = .returned (.slice r_b r_l r_c) ∧ R r_b r_l r_c w'
theorem seg_RecvBuf_Ahead.Call.mono {b} {w : World} {R R' : Option Addr → Nat → Nat → World → Prop} (h : seg_RecvBuf_Ahead.Call b w R) (hr : ∀ r_b r_l r_c w', R r_b r_l r_c w' → R' r_b r_l r_c w') : seg_RecvBuf_Ahead.Call b w R' :=
  Calls.mono h fun e w' he => by
    obtain ⟨r_b, r_l, r_c, h1, h2⟩ := he
    exact ⟨r_b, r_l, r_c, h1, hr r_b r_l r_c w' h2⟩
def seg_RecvBuf_Ahead.RV (R : Option Addr → Nat → Nat → World → Prop) (v : Value) (w : World) : Prop := match v with
  | .slice r_b r_l r_c => R r_b r_l r_c w
  | _ => False
theorem seg_RecvBuf_Ahead.RV_elim {R : Option Addr → Nat → Nat → World → Prop} {v : Value} {w : World} (h : seg_RecvBuf_Ahead.RV R v w) : ∃ r_b r_l r_c, Ending.returned v = .returned (.slice r_b r_l r_c) ∧ R r_b r_l r_c w := by
  unfold seg_RecvBuf_Ahead.RV at h
  split at h
  · exact ⟨_, _, _, rfl, h⟩
  · exact h.elim
/-- (*e2e/conn.Conn).sndUna -/
def conn_Conn_sndUna.Call (c : Option Addr) (w : World) (R : Int → World → Prop) : Prop :=
  Calls Tryz.prog 52 #[.pointer c] w fun e w' => ∃ r, e = .returned (.int .i64 r) ∧ R r w'
theorem conn_Conn_sndUna.Call.mono {c} {w : World} {R R' : Int → World → Prop} (h : conn_Conn_sndUna.Call c w R) (hr : ∀ r w', R r w' → R' r w') : conn_Conn_sndUna.Call c w R' :=
  Calls.mono h fun e w' he => by
    obtain ⟨r, h1, h2⟩ := he
    exact ⟨r, h1, hr r w' h2⟩
def conn_Conn_sndUna.RV (R : Int → World → Prop) (v : Value) (w : World) : Prop := match v with
  | .int .i64 r => R r w
  | _ => False
theorem conn_Conn_sndUna.RV_elim {R : Int → World → Prop} {v : Value} {w : World} (h : conn_Conn_sndUna.RV R v w) : ∃ r, Ending.returned v = .returned (.int .i64 r) ∧ R r w := by
  unfold conn_Conn_sndUna.RV at h
  split at h
  · exact ⟨_, rfl, h⟩
  · exact h.elim
/-- (*e2e/conn.Conn).sndNxt -/
def conn_Conn_sndNxt.Call (c : Option Addr) (w : World) (R : Int → World → Prop) : Prop :=
  Calls Tryz.prog 53 #[.pointer c] w fun e w' => ∃ r, e = .returned (.int .i64 r) ∧ R r w'
theorem conn_Conn_sndNxt.Call.mono {c} {w : World} {R R' : Int → World → Prop} (h : conn_Conn_sndNxt.Call c w R) (hr : ∀ r w', R r w' → R' r w') : conn_Conn_sndNxt.Call c w R' :=
  Calls.mono h fun e w' he => by
    obtain ⟨r, h1, h2⟩ := he
    exact ⟨r, h1, hr r w' h2⟩
def conn_Conn_sndNxt.RV (R : Int → World → Prop) (v : Value) (w : World) : Prop := match v with
  | .int .i64 r => R r w
  | _ => False
theorem conn_Conn_sndNxt.RV_elim {R : Int → World → Prop} {v : Value} {w : World} (h : conn_Conn_sndNxt.RV R v w) : ∃ r, Ending.returned v = .returned (.int .i64 r) ∧ R r w := by
  unfold conn_Conn_sndNxt.RV at h
  split at h
  · exact ⟨_, rfl, h⟩
  · exact h.elim
/-- (*e2e/conn.Conn).rcvNxt -/
def conn_Conn_rcvNxt.Call (c : Option Addr) (w : World) (R : Int → World → Prop) : Prop :=
  Calls Tryz.prog 54 #[.pointer c] w fun e w' => ∃ r, e = .returned (.int .i64 r) ∧ R r w'
theorem conn_Conn_rcvNxt.Call.mono {c} {w : World} {R R' : Int → World → Prop} (h : conn_Conn_rcvNxt.Call c w R) (hr : ∀ r w', R r w' → R' r w') : conn_Conn_rcvNxt.Call c w R' :=
  Calls.mono h fun e w' he => by
    obtain ⟨r, h1, h2⟩ := he
    exact ⟨r, h1, hr r w' h2⟩
def conn_Conn_rcvNxt.RV (R : Int → World → Prop) (v : Value) (w : World) : Prop := match v with
  | .int .i64 r => R r w
  | _ => False
theorem conn_Conn_rcvNxt.RV_elim {R : Int → World → Prop} {v : Value} {w : World} (h : conn_Conn_rcvNxt.RV R v w) : ∃ r, Ending.returned v = .returned (.int .i64 r) ∧ R r w := by
  unfold conn_Conn_rcvNxt.RV at h
  split at h
  · exact ⟨_, rfl, h⟩
  · exact h.elim
/-- (*e2e/seg.SendBuf).Len -/
def seg_SendBuf_Len.Call (b : Option Addr) (w : World) (R : Int → World → Prop) : Prop :=
  Calls Tryz.prog 55 #[.pointer b] w fun e w' => ∃ r, e = .returned (.int .i64 r) ∧ R r w'
theorem seg_SendBuf_Len.Call.mono {b} {w : World} {R R' : Int → World → Prop} (h : seg_SendBuf_Len.Call b w R) (hr : ∀ r w', R r w' → R' r w') : seg_SendBuf_Len.Call b w R' :=
  Calls.mono h fun e w' he => by
    obtain ⟨r, h1, h2⟩ := he
    exact ⟨r, h1, hr r w' h2⟩
def seg_SendBuf_Len.RV (R : Int → World → Prop) (v : Value) (w : World) : Prop := match v with
  | .int .i64 r => R r w
  | _ => False
theorem seg_SendBuf_Len.RV_elim {R : Int → World → Prop} {v : Value} {w : World} (h : seg_SendBuf_Len.RV R v w) : ∃ r, Ending.returned v = .returned (.int .i64 r) ∧ R r w := by
  unfold seg_SendBuf_Len.RV at h
  split at h
  · exact ⟨_, rfl, h⟩
  · exact h.elim
/-- (*e2e/seg.SendBuf).Unsent -/
def seg_SendBuf_Unsent.Call (b : Option Addr) (w : World) (R : Int → World → Prop) : Prop :=
  Calls Tryz.prog 56 #[.pointer b] w fun e w' => ∃ r, e = .returned (.int .i64 r) ∧ R r w'
theorem seg_SendBuf_Unsent.Call.mono {b} {w : World} {R R' : Int → World → Prop} (h : seg_SendBuf_Unsent.Call b w R) (hr : ∀ r w', R r w' → R' r w') : seg_SendBuf_Unsent.Call b w R' :=
  Calls.mono h fun e w' he => by
    obtain ⟨r, h1, h2⟩ := he
    exact ⟨r, h1, hr r w' h2⟩
def seg_SendBuf_Unsent.RV (R : Int → World → Prop) (v : Value) (w : World) : Prop := match v with
  | .int .i64 r => R r w
  | _ => False
theorem seg_SendBuf_Unsent.RV_elim {R : Int → World → Prop} {v : Value} {w : World} (h : seg_SendBuf_Unsent.RV R v w) : ∃ r, Ending.returned v = .returned (.int .i64 r) ∧ R r w := by
  unfold seg_SendBuf_Unsent.RV at h
  split at h
  · exact ⟨_, rfl, h⟩
  · exact h.elim
/-- (*e2e/seg.RecvBuf).Avail -/
def seg_RecvBuf_Avail.Call (b : Option Addr) (w : World) (R : Int → World → Prop) : Prop :=
  Calls Tryz.prog 57 #[.pointer b] w fun e w' => ∃ r, e = .returned (.int .i64 r) ∧ R r w'
theorem seg_RecvBuf_Avail.Call.mono {b} {w : World} {R R' : Int → World → Prop} (h : seg_RecvBuf_Avail.Call b w R) (hr : ∀ r w', R r w' → R' r w') : seg_RecvBuf_Avail.Call b w R' :=
  Calls.mono h fun e w' he => by
    obtain ⟨r, h1, h2⟩ := he
    exact ⟨r, h1, hr r w' h2⟩
def seg_RecvBuf_Avail.RV (R : Int → World → Prop) (v : Value) (w : World) : Prop := match v with
  | .int .i64 r => R r w
  | _ => False
theorem seg_RecvBuf_Avail.RV_elim {R : Int → World → Prop} {v : Value} {w : World} (h : seg_RecvBuf_Avail.RV R v w) : ∃ r, Ending.returned v = .returned (.int .i64 r) ∧ R r w := by
  unfold seg_RecvBuf_Avail.RV at h
  split at h
  · exact ⟨_, rfl, h⟩
  · exact h.elim
/-- (*e2e/seg.RecvBuf).Held -/
def seg_RecvBuf_Held.Call (b : Option Addr) (w : World) (R : Int → World → Prop) : Prop :=
  Calls Tryz.prog 58 #[.pointer b] w fun e w' => ∃ r, e = .returned (.int .i64 r) ∧ R r w'
theorem seg_RecvBuf_Held.Call.mono {b} {w : World} {R R' : Int → World → Prop} (h : seg_RecvBuf_Held.Call b w R) (hr : ∀ r w', R r w' → R' r w') : seg_RecvBuf_Held.Call b w R' :=
  Calls.mono h fun e w' he => by
    obtain ⟨r, h1, h2⟩ := he
    exact ⟨r, h1, hr r w' h2⟩
def seg_RecvBuf_Held.RV (R : Int → World → Prop) (v : Value) (w : World) : Prop := match v with
  | .int .i64 r => R r w
  | _ => False
theorem seg_RecvBuf_Held.RV_elim {R : Int → World → Prop} {v : Value} {w : World} (h : seg_RecvBuf_Held.RV R v w) : ∃ r, Ending.returned v = .returned (.int .i64 r) ∧ R r w := by
  unfold seg_RecvBuf_Held.RV at h
  split at h
  · exact ⟨_, rfl, h⟩
  · exact h.elim
/-- (*e2e/connm.Conn).out -/
def connm_Conn_out.Call (c : Option Addr) (w : World) (R : Int → World → Prop) : Prop :=
  Calls Tryz.prog 59 #[.pointer c] w fun e w' => ∃ r, e = .returned (.int .i64 r) ∧ R r w'
theorem connm_Conn_out.Call.mono {c} {w : World} {R R' : Int → World → Prop} (h : connm_Conn_out.Call c w R) (hr : ∀ r w', R r w' → R' r w') : connm_Conn_out.Call c w R' :=
  Calls.mono h fun e w' he => by
    obtain ⟨r, h1, h2⟩ := he
    exact ⟨r, h1, hr r w' h2⟩
def connm_Conn_out.RV (R : Int → World → Prop) (v : Value) (w : World) : Prop := match v with
  | .int .i64 r => R r w
  | _ => False
theorem connm_Conn_out.RV_elim {R : Int → World → Prop} {v : Value} {w : World} (h : connm_Conn_out.RV R v w) : ∃ r, Ending.returned v = .returned (.int .i64 r) ∧ R r w := by
  unfold connm_Conn_out.RV at h
  split at h
  · exact ⟨_, rfl, h⟩
  · exact h.elim
/-- e2e/api.SeqAdd -/
def api_SeqAdd.Call (a n : Int) (w : World) (R : Int → World → Prop) : Prop :=
  Calls Tryz.prog 60 #[.int .i64 a, .int .i64 n] w fun e w' => ∃ r, e = .returned (.int .i64 r) ∧ R r w'
theorem api_SeqAdd.Call.mono {a n} {w : World} {R R' : Int → World → Prop} (h : api_SeqAdd.Call a n w R) (hr : ∀ r w', R r w' → R' r w') : api_SeqAdd.Call a n w R' :=
  Calls.mono h fun e w' he => by
    obtain ⟨r, h1, h2⟩ := he
    exact ⟨r, h1, hr r w' h2⟩
def api_SeqAdd.RV (R : Int → World → Prop) (v : Value) (w : World) : Prop := match v with
  | .int .i64 r => R r w
  | _ => False
theorem api_SeqAdd.RV_elim {R : Int → World → Prop} {v : Value} {w : World} (h : api_SeqAdd.RV R v w) : ∃ r, Ending.returned v = .returned (.int .i64 r) ∧ R r w := by
  unfold api_SeqAdd.RV at h
  split at h
  · exact ⟨_, rfl, h⟩
  · exact h.elim
/-- e2e/api.CopyBytes -/
def api_CopyBytes.Call (b_b : Option Addr) (b_l b_c : Nat) (w : World) (R : Option Addr → Nat → Nat → World → Prop) : Prop :=
  Calls Tryz.prog 61 #[.slice b_b b_l b_c] w fun e w' => ∃ r_b r_l r_c, e = .returned (.slice r_b r_l r_c) ∧ R r_b r_l r_c w'
theorem api_CopyBytes.Call.mono {b_b b_l b_c} {w : World} {R R' : Option Addr → Nat → Nat → World → Prop} (h : api_CopyBytes.Call b_b b_l b_c w R) (hr : ∀ r_b r_l r_c w', R r_b r_l r_c w' → R' r_b r_l r_c w') : api_CopyBytes.Call b_b b_l b_c w R' :=
  Calls.mono h fun e w' he => by
    obtain ⟨r_b, r_l, r_c, h1, h2⟩ := he
    exact ⟨r_b, r_l, r_c, h1, hr r_b r_l r_c w' h2⟩
def api_CopyBytes.RV (R : Option Addr → Nat → Nat → World → Prop) (v : Value) (w : World) : Prop := match v with
  | .slice r_b r_l r_c => R r_b r_l r_c w
  | _ => False
theorem api_CopyBytes.RV_elim {R : Option Addr → Nat → Nat → World → Prop} {v : Value} {w : World} (h : api_CopyBytes.RV R v w) : ∃ r_b r_l r_c, Ending.returned v = .returned (.slice r_b r_l r_c) ∧ R r_b r_l r_c w := by
  unfold api_CopyBytes.RV at h
  split at h
  · exact ⟨_, _, _, rfl, h⟩
  · exact h.elim
/-- (*e2e/conn.Conn).sent -/
def conn_Conn_sent.Call (c : Option Addr) (w : World) (R : Int → World → Prop) : Prop :=
  Calls Tryz.prog 62 #[.pointer c] w fun e w' => ∃ r, e = .returned (.int .i64 r) ∧ R r w'
theorem conn_Conn_sent.Call.mono {c} {w : World} {R R' : Int → World → Prop} (h : conn_Conn_sent.Call c w R) (hr : ∀ r w', R r w' → R' r w') : conn_Conn_sent.Call c w R' :=
  Calls.mono h fun e w' he => by
    obtain ⟨r, h1, h2⟩ := he
    exact ⟨r, h1, hr r w' h2⟩
def conn_Conn_sent.RV (R : Int → World → Prop) (v : Value) (w : World) : Prop := match v with
  | .int .i64 r => R r w
  | _ => False
theorem conn_Conn_sent.RV_elim {R : Int → World → Prop} {v : Value} {w : World} (h : conn_Conn_sent.RV R v w) : ∃ r, Ending.returned v = .returned (.int .i64 r) ∧ R r w := by
  unfold conn_Conn_sent.RV at h
  split at h
  · exact ⟨_, rfl, h⟩
  · exact h.elim
/-- e2e/connlaw.CopySeg -/
def connlaw_CopySeg.Call (s_0 s_1 s_2 s_3 s_4 s_5 : Int) (s_6_b : Option Addr) (s_6_l s_6_c : Nat) (w : World) (R : Int → Int → Int → Int → Int → Int → Option Addr → Nat → Nat → World → Prop) : Prop :=
  Calls Tryz.prog 63 #[.agg #[.int .i64 s_0, .int .i64 s_1, .int .i64 s_2, .int .i64 s_3, .int .i64 s_4, .int .i64 s_5, .slice s_6_b s_6_l s_6_c]] w fun e w' => ∃ r_0 r_1 r_2 r_3 r_4 r_5 r_6_b r_6_l r_6_c, e = .returned (.agg #[.int .i64 r_0, .int .i64 r_1, .int .i64 r_2, .int .i64 r_3, .int .i64 r_4, .int .i64 r_5, .slice r_6_b r_6_l r_6_c]) ∧ R r_0 r_1 r_2 r_3 r_4 r_5 r_6_b r_6_l r_6_c w'
theorem connlaw_CopySeg.Call.mono {s_0 s_1 s_2 s_3 s_4 s_5 s_6_b s_6_l s_6_c} {w : World} {R R' : Int → Int → Int → Int → Int → Int → Option Addr → Nat → Nat → World → Prop} (h : connlaw_CopySeg.Call s_0 s_1 s_2 s_3 s_4 s_5 s_6_b s_6_l s_6_c w R) (hr : ∀ r_0 r_1 r_2 r_3 r_4 r_5 r_6_b r_6_l r_6_c w', R r_0 r_1 r_2 r_3 r_4 r_5 r_6_b r_6_l r_6_c w' → R' r_0 r_1 r_2 r_3 r_4 r_5 r_6_b r_6_l r_6_c w') : connlaw_CopySeg.Call s_0 s_1 s_2 s_3 s_4 s_5 s_6_b s_6_l s_6_c w R' :=
  Calls.mono h fun e w' he => by
    obtain ⟨r_0, r_1, r_2, r_3, r_4, r_5, r_6_b, r_6_l, r_6_c, h1, h2⟩ := he
    exact ⟨r_0, r_1, r_2, r_3, r_4, r_5, r_6_b, r_6_l, r_6_c, h1, hr r_0 r_1 r_2 r_3 r_4 r_5 r_6_b r_6_l r_6_c w' h2⟩
def connlaw_CopySeg.RV (R : Int → Int → Int → Int → Int → Int → Option Addr → Nat → Nat → World → Prop) (v : Value) (w : World) : Prop := match v with
  | .agg ⟨[.int .i64 r_0, .int .i64 r_1, .int .i64 r_2, .int .i64 r_3, .int .i64 r_4, .int .i64 r_5, .slice r_6_b r_6_l r_6_c]⟩ => R r_0 r_1 r_2 r_3 r_4 r_5 r_6_b r_6_l r_6_c w
  | _ => False
theorem connlaw_CopySeg.RV_elim {R : Int → Int → Int → Int → Int → Int → Option Addr → Nat → Nat → World → Prop} {v : Value} {w : World} (h : connlaw_CopySeg.RV R v w) : ∃ r_0 r_1 r_2 r_3 r_4 r_5 r_6_b r_6_l r_6_c, Ending.returned v = .returned (.agg #[.int .i64 r_0, .int .i64 r_1, .int .i64 r_2, .int .i64 r_3, .int .i64 r_4, .int .i64 r_5, .slice r_6_b r_6_l r_6_c]) ∧ R r_0 r_1 r_2 r_3 r_4 r_5 r_6_b r_6_l r_6_c w := by
  unfold connlaw_CopySeg.RV at h
  split at h
  · exact ⟨_, _, _, _, _, _, _, _, _, rfl, h⟩
  · exact h.elim
/-- (*e2e/conn.Conn).Input -/
def conn_Conn_Input.Call (c : Option Addr) (s_0 s_1 s_2 s_3 s_4 s_5 : Int) (s_6_b : Option Addr) (s_6_l s_6_c : Nat) (w : World) (R : Option Addr → Nat → Nat → World → Prop) : Prop :=
  Calls Tryz.prog 64 #[.pointer c, .agg #[.int .i64 s_0, .int .i64 s_1, .int .i64 s_2, .int .i64 s_3, .int .i64 s_4, .int .i64 s_5, .slice s_6_b s_6_l s_6_c]] w fun e w' => ∃ r_b r_l r_c, e = .returned (.slice r_b r_l r_c) ∧ R r_b r_l r_c w'
theorem conn_Conn_Input.Call.mono {c s_0 s_1 s_2 s_3 s_4 s_5 s_6_b s_6_l s_6_c} {w : World} {R R' : Option Addr → Nat → Nat → World → Prop} (h : conn_Conn_Input.Call c s_0 s_1 s_2 s_3 s_4 s_5 s_6_b s_6_l s_6_c w R) (hr : ∀ r_b r_l r_c w', R r_b r_l r_c w' → R' r_b r_l r_c w') : conn_Conn_Input.Call c s_0 s_1 s_2 s_3 s_4 s_5 s_6_b s_6_l s_6_c w R' :=
  Calls.mono h fun e w' he => by
    obtain ⟨r_b, r_l, r_c, h1, h2⟩ := he
    exact ⟨r_b, r_l, r_c, h1, hr r_b r_l r_c w' h2⟩
def conn_Conn_Input.RV (R : Option Addr → Nat → Nat → World → Prop) (v : Value) (w : World) : Prop := match v with
  | .slice r_b r_l r_c => R r_b r_l r_c w
  | _ => False
theorem conn_Conn_Input.RV_elim {R : Option Addr → Nat → Nat → World → Prop} {v : Value} {w : World} (h : conn_Conn_Input.RV R v w) : ∃ r_b r_l r_c, Ending.returned v = .returned (.slice r_b r_l r_c) ∧ R r_b r_l r_c w := by
  unfold conn_Conn_Input.RV at h
  split at h
  · exact ⟨_, _, _, rfl, h⟩
  · exact h.elim
/-- (*e2e/connm.Conn).Input -/
def connm_Conn_Input.Call (c : Option Addr) (s_0 s_1 s_2 s_3 s_4 s_5 : Int) (s_6_b : Option Addr) (s_6_l s_6_c : Nat) (w : World) (R : Option Addr → Nat → Nat → World → Prop) : Prop :=
  Calls Tryz.prog 65 #[.pointer c, .agg #[.int .i64 s_0, .int .i64 s_1, .int .i64 s_2, .int .i64 s_3, .int .i64 s_4, .int .i64 s_5, .slice s_6_b s_6_l s_6_c]] w fun e w' => ∃ r_b r_l r_c, e = .returned (.slice r_b r_l r_c) ∧ R r_b r_l r_c w'
theorem connm_Conn_Input.Call.mono {c s_0 s_1 s_2 s_3 s_4 s_5 s_6_b s_6_l s_6_c} {w : World} {R R' : Option Addr → Nat → Nat → World → Prop} (h : connm_Conn_Input.Call c s_0 s_1 s_2 s_3 s_4 s_5 s_6_b s_6_l s_6_c w R) (hr : ∀ r_b r_l r_c w', R r_b r_l r_c w' → R' r_b r_l r_c w') : connm_Conn_Input.Call c s_0 s_1 s_2 s_3 s_4 s_5 s_6_b s_6_l s_6_c w R' :=
  Calls.mono h fun e w' he => by
    obtain ⟨r_b, r_l, r_c, h1, h2⟩ := he
    exact ⟨r_b, r_l, r_c, h1, hr r_b r_l r_c w' h2⟩
def connm_Conn_Input.RV (R : Option Addr → Nat → Nat → World → Prop) (v : Value) (w : World) : Prop := match v with
  | .slice r_b r_l r_c => R r_b r_l r_c w
  | _ => False
theorem connm_Conn_Input.RV_elim {R : Option Addr → Nat → Nat → World → Prop} {v : Value} {w : World} (h : connm_Conn_Input.RV R v w) : ∃ r_b r_l r_c, Ending.returned v = .returned (.slice r_b r_l r_c) ∧ R r_b r_l r_c w := by
  unfold connm_Conn_Input.RV at h
  split at h
  · exact ⟨_, _, _, rfl, h⟩
  · exact h.elim
/-- (*e2e/conn.Conn).begin -/
def conn_Conn_begin.Call (c : Option Addr) (st iss : Int) (w : World) (R : World → Prop) : Prop :=
  Calls Tryz.prog 66 #[.pointer c, .int .i64 st, .int .i64 iss] w fun e w' => e = .returned (.tuple #[]) ∧ R w'
theorem conn_Conn_begin.Call.mono {c st iss} {w : World} {R R' : World → Prop} (h : conn_Conn_begin.Call c st iss w R) (hr : ∀ w', R w' → R'  w') : conn_Conn_begin.Call c st iss w R' :=
  Calls.mono h fun e w' he => by
    obtain ⟨h1, h2⟩ := he
    exact ⟨h1, hr  w' h2⟩
def conn_Conn_begin.RV (R : World → Prop) (v : Value) (w : World) : Prop := match v with
  | .tuple ⟨[]⟩ => R w
  | _ => False
theorem conn_Conn_begin.RV_elim {R : World → Prop} {v : Value} {w : World} (h : conn_Conn_begin.RV R v w) : Ending.returned v = .returned (.tuple #[]) ∧ R w := by
  unfold conn_Conn_begin.RV at h
  split at h
  · exact ⟨rfl, h⟩
  · exact h.elim
/-- (*e2e/conn.Conn).again -/
def conn_Conn_again.Call (c : Option Addr) (w : World) (R : Int → Int → Int → Int → Int → Int → Option Addr → Nat → Nat → World → Prop) : Prop :=
  Calls Tryz.prog 67 #[.pointer c] w fun e w' => ∃ r_0 r_1 r_2 r_3 r_4 r_5 r_6_b r_6_l r_6_c, e = .returned (.agg #[.int .i64 r_0, .int .i64 r_1, .int .i64 r_2, .int .i64 r_3, .int .i64 r_4, .int .i64 r_5, .slice r_6_b r_6_l r_6_c]) ∧ R r_0 r_1 r_2 r_3 r_4 r_5 r_6_b r_6_l r_6_c w'
theorem conn_Conn_again.Call.mono {c} {w : World} {R R' : Int → Int → Int → Int → Int → Int → Option Addr → Nat → Nat → World → Prop} (h : conn_Conn_again.Call c w R) (hr : ∀ r_0 r_1 r_2 r_3 r_4 r_5 r_6_b r_6_l r_6_c w', R r_0 r_1 r_2 r_3 r_4 r_5 r_6_b r_6_l r_6_c w' → R' r_0 r_1 r_2 r_3 r_4 r_5 r_6_b r_6_l r_6_c w') : conn_Conn_again.Call c w R' :=
  Calls.mono h fun e w' he => by
    obtain ⟨r_0, r_1, r_2, r_3, r_4, r_5, r_6_b, r_6_l, r_6_c, h1, h2⟩ := he
    exact ⟨r_0, r_1, r_2, r_3, r_4, r_5, r_6_b, r_6_l, r_6_c, h1, hr r_0 r_1 r_2 r_3 r_4 r_5 r_6_b r_6_l r_6_c w' h2⟩
def conn_Conn_again.RV (R : Int → Int → Int → Int → Int → Int → Option Addr → Nat → Nat → World → Prop) (v : Value) (w : World) : Prop := match v with
  | .agg ⟨[.int .i64 r_0, .int .i64 r_1, .int .i64 r_2, .int .i64 r_3, .int .i64 r_4, .int .i64 r_5, .slice r_6_b r_6_l r_6_c]⟩ => R r_0 r_1 r_2 r_3 r_4 r_5 r_6_b r_6_l r_6_c w
  | _ => False
theorem conn_Conn_again.RV_elim {R : Int → Int → Int → Int → Int → Int → Option Addr → Nat → Nat → World → Prop} {v : Value} {w : World} (h : conn_Conn_again.RV R v w) : ∃ r_0 r_1 r_2 r_3 r_4 r_5 r_6_b r_6_l r_6_c, Ending.returned v = .returned (.agg #[.int .i64 r_0, .int .i64 r_1, .int .i64 r_2, .int .i64 r_3, .int .i64 r_4, .int .i64 r_5, .slice r_6_b r_6_l r_6_c]) ∧ R r_0 r_1 r_2 r_3 r_4 r_5 r_6_b r_6_l r_6_c w := by
  unfold conn_Conn_again.RV at h
  split at h
  · exact ⟨_, _, _, _, _, _, _, _, _, rfl, h⟩
  · exact h.elim
/-- e2e/conn.one -/
def conn_one.Call (s_0 s_1 s_2 s_3 s_4 s_5 : Int) (s_6_b : Option Addr) (s_6_l s_6_c : Nat) (w : World) (R : Option Addr → Nat → Nat → World → Prop) : Prop :=
  Calls Tryz.prog 68 #[.agg #[.int .i64 s_0, .int .i64 s_1, .int .i64 s_2, .int .i64 s_3, .int .i64 s_4, .int .i64 s_5, .slice s_6_b s_6_l s_6_c]] w fun e w' => ∃ r_b r_l r_c, e = .returned (.slice r_b r_l r_c) ∧ R r_b r_l r_c w'
theorem conn_one.Call.mono {s_0 s_1 s_2 s_3 s_4 s_5 s_6_b s_6_l s_6_c} {w : World} {R R' : Option Addr → Nat → Nat → World → Prop} (h : conn_one.Call s_0 s_1 s_2 s_3 s_4 s_5 s_6_b s_6_l s_6_c w R) (hr : ∀ r_b r_l r_c w', R r_b r_l r_c w' → R' r_b r_l r_c w') : conn_one.Call s_0 s_1 s_2 s_3 s_4 s_5 s_6_b s_6_l s_6_c w R' :=
  Calls.mono h fun e w' he => by
    obtain ⟨r_b, r_l, r_c, h1, h2⟩ := he
    exact ⟨r_b, r_l, r_c, h1, hr r_b r_l r_c w' h2⟩
def conn_one.RV (R : Option Addr → Nat → Nat → World → Prop) (v : Value) (w : World) : Prop := match v with
  | .slice r_b r_l r_c => R r_b r_l r_c w
  | _ => False
theorem conn_one.RV_elim {R : Option Addr → Nat → Nat → World → Prop} {v : Value} {w : World} (h : conn_one.RV R v w) : ∃ r_b r_l r_c, Ending.returned v = .returned (.slice r_b r_l r_c) ∧ R r_b r_l r_c w := by
  unfold conn_one.RV at h
  split at h
  · exact ⟨_, _, _, rfl, h⟩
  · exact h.elim
/-- (*e2e/connm.Conn).wipe -/
def connm_Conn_wipe.Call (c : Option Addr) (w : World) (R : World → Prop) : Prop :=
  Calls Tryz.prog 69 #[.pointer c] w fun e w' => e = .returned (.tuple #[]) ∧ R w'
theorem connm_Conn_wipe.Call.mono {c} {w : World} {R R' : World → Prop} (h : connm_Conn_wipe.Call c w R) (hr : ∀ w', R w' → R'  w') : connm_Conn_wipe.Call c w R' :=
  Calls.mono h fun e w' he => by
    obtain ⟨h1, h2⟩ := he
    exact ⟨h1, hr  w' h2⟩
def connm_Conn_wipe.RV (R : World → Prop) (v : Value) (w : World) : Prop := match v with
  | .tuple ⟨[]⟩ => R w
  | _ => False
theorem connm_Conn_wipe.RV_elim {R : World → Prop} {v : Value} {w : World} (h : connm_Conn_wipe.RV R v w) : Ending.returned v = .returned (.tuple #[]) ∧ R w := by
  unfold connm_Conn_wipe.RV at h
  split at h
  · exact ⟨rfl, h⟩
  · exact h.elim
/-- (*e2e/connm.Conn).again -/
def connm_Conn_again.Call (c : Option Addr) (w : World) (R : Int → Int → Int → Int → Int → Int → Option Addr → Nat → Nat → World → Prop) : Prop :=
  Calls Tryz.prog 70 #[.pointer c] w fun e w' => ∃ r_0 r_1 r_2 r_3 r_4 r_5 r_6_b r_6_l r_6_c, e = .returned (.agg #[.int .i64 r_0, .int .i64 r_1, .int .i64 r_2, .int .i64 r_3, .int .i64 r_4, .int .i64 r_5, .slice r_6_b r_6_l r_6_c]) ∧ R r_0 r_1 r_2 r_3 r_4 r_5 r_6_b r_6_l r_6_c w'
theorem connm_Conn_again.Call.mono {c} {w : World} {R R' : Int → Int → Int → Int → Int → Int → Option Addr → Nat → Nat → World → Prop} (h : connm_Conn_again.Call c w R) (hr : ∀ r_0 r_1 r_2 r_3 r_4 r_5 r_6_b r_6_l r_6_c w', R r_0 r_1 r_2 r_3 r_4 r_5 r_6_b r_6_l r_6_c w' → R' r_0 r_1 r_2 r_3 r_4 r_5 r_6_b r_6_l r_6_c w') : connm_Conn_again.Call c w R' :=
  Calls.mono h fun e w' he => by
    obtain ⟨r_0, r_1, r_2, r_3, r_4, r_5, r_6_b, r_6_l, r_6_c, h1, h2⟩ := he
    exact ⟨r_0, r_1, r_2, r_3, r_4, r_5, r_6_b, r_6_l, r_6_c, h1, hr r_0 r_1 r_2 r_3 r_4 r_5 r_6_b r_6_l r_6_c w' h2⟩
def connm_Conn_again.RV (R : Int → Int → Int → Int → Int → Int → Option Addr → Nat → Nat → World → Prop) (v : Value) (w : World) : Prop := match v with
  | .agg ⟨[.int .i64 r_0, .int .i64 r_1, .int .i64 r_2, .int .i64 r_3, .int .i64 r_4, .int .i64 r_5, .slice r_6_b r_6_l r_6_c]⟩ => R r_0 r_1 r_2 r_3 r_4 r_5 r_6_b r_6_l r_6_c w
  | _ => False
theorem connm_Conn_again.RV_elim {R : Int → Int → Int → Int → Int → Int → Option Addr → Nat → Nat → World → Prop} {v : Value} {w : World} (h : connm_Conn_again.RV R v w) : ∃ r_0 r_1 r_2 r_3 r_4 r_5 r_6_b r_6_l r_6_c, Ending.returned v = .returned (.agg #[.int .i64 r_0, .int .i64 r_1, .int .i64 r_2, .int .i64 r_3, .int .i64 r_4, .int .i64 r_5, .slice r_6_b r_6_l r_6_c]) ∧ R r_0 r_1 r_2 r_3 r_4 r_5 r_6_b r_6_l r_6_c w := by
  unfold connm_Conn_again.RV at h
  split at h
  · exact ⟨_, _, _, _, _, _, _, _, _, rfl, h⟩
  · exact h.elim
/-- e2e/connlaw.SameSegs -/
def connlaw_SameSegs.Call (a_b : Option Addr) (a_l a_c : Nat) (b_b : Option Addr) (b_l b_c : Nat) (w : World) (R : Bool → World → Prop) : Prop :=
  Calls Tryz.prog 71 #[.slice a_b a_l a_c, .slice b_b b_l b_c] w fun e w' => ∃ r, e = .returned (.bool r) ∧ R r w'
theorem connlaw_SameSegs.Call.mono {a_b a_l a_c b_b b_l b_c} {w : World} {R R' : Bool → World → Prop} (h : connlaw_SameSegs.Call a_b a_l a_c b_b b_l b_c w R) (hr : ∀ r w', R r w' → R' r w') : connlaw_SameSegs.Call a_b a_l a_c b_b b_l b_c w R' :=
  Calls.mono h fun e w' he => by
    obtain ⟨r, h1, h2⟩ := he
    exact ⟨r, h1, hr r w' h2⟩
def connlaw_SameSegs.RV (R : Bool → World → Prop) (v : Value) (w : World) : Prop := match v with
  | .bool r => R r w
  | _ => False
theorem connlaw_SameSegs.RV_elim {R : Bool → World → Prop} {v : Value} {w : World} (h : connlaw_SameSegs.RV R v w) : ∃ r, Ending.returned v = .returned (.bool r) ∧ R r w := by
  unfold connlaw_SameSegs.RV at h
  split at h
  · exact ⟨_, rfl, h⟩
  · exact h.elim
/-- (*e2e/conn.Conn).OpenPassive -/
def conn_Conn_OpenPassive.Call (c : Option Addr) (iss syn_0 syn_1 syn_2 syn_3 syn_4 syn_5 : Int) (syn_6_b : Option Addr) (syn_6_l syn_6_c : Nat) (w : World) (R : Option Addr → Nat → Nat → Int → World → Prop) : Prop :=
  Calls Tryz.prog 72 #[.pointer c, .int .i64 iss, .agg #[.int .i64 syn_0, .int .i64 syn_1, .int .i64 syn_2, .int .i64 syn_3, .int .i64 syn_4, .int .i64 syn_5, .slice syn_6_b syn_6_l syn_6_c]] w fun e w' => ∃ r0_b r0_l r0_c r1, e = .returned (.tuple #[.slice r0_b r0_l r0_c, .int .i64 r1]) ∧ R r0_b r0_l r0_c r1 w'
theorem conn_Conn_OpenPassive.Call.mono {c iss syn_0 syn_1 syn_2 syn_3 syn_4 syn_5 syn_6_b syn_6_l syn_6_c} {w : World} {R R' : Option Addr → Nat → Nat → Int → World → Prop} (h : conn_Conn_OpenPassive.Call c iss syn_0 syn_1 syn_2 syn_3 syn_4 syn_5 syn_6_b syn_6_l syn_6_c w R) (hr : ∀ r0_b r0_l r0_c r1 w', R r0_b r0_l r0_c r1 w' → R' r0_b r0_l r0_c r1 w') : conn_Conn_OpenPassive.Call c iss syn_0 syn_1 syn_2 syn_3 syn_4 syn_5 syn_6_b syn_6_l syn_6_c w R' :=
  Calls.mono h fun e w' he => by
    obtain ⟨r0_b, r0_l, r0_c, r1, h1, h2⟩ := he
    exact ⟨r0_b, r0_l, r0_c, r1, h1, hr r0_b r0_l r0_c r1 w' h2⟩
def conn_Conn_OpenPassive.RV (R : Option Addr → Nat → Nat → Int → World → Prop) (v : Value) (w : World) : Prop := match v with
  | .tuple ⟨[.slice r0_b r0_l r0_c, .int .i64 r1]⟩ => R r0_b r0_l r0_c r1 w
  | _ => False
theorem conn_Conn_OpenPassive.RV_elim {R : Option Addr → Nat → Nat → Int → World → Prop} {v : Value} {w : World} (h : conn_Conn_OpenPassive.RV R v w) : ∃ r0_b r0_l r0_c r1, Ending.returned v = .returned (.tuple #[.slice r0_b r0_l r0_c, .int .i64 r1]) ∧ R r0_b r0_l r0_c r1 w := by
  unfold conn_Conn_OpenPassive.RV at h
  split at h
  · exact ⟨_, _, _, _, rfl, h⟩
  · exact h.elim
/-- (*e2e/connm.Conn).OpenPassive -/
def connm_Conn_OpenPassive.Call (c : Option Addr) (iss syn_0 syn_1 syn_2 syn_3 syn_4 syn_5 : Int) (syn_6_b : Option Addr) (syn_6_l syn_6_c : Nat) (w : World) (R : Option Addr → Nat → Nat → Int → World → Prop) : Prop :=
  Calls Tryz.prog 73 #[.pointer c, .int .i64 iss, .agg #[.int .i64 syn_0, .int .i64 syn_1, .int .i64 syn_2, .int .i64 syn_3, .int .i64 syn_4, .int .i64 syn_5, .slice syn_6_b syn_6_l syn_6_c]] w fun e w' => ∃ r0_b r0_l r0_c r1, e = .returned (.tuple #[.slice r0_b r0_l r0_c, .int .i64 r1]) ∧ R r0_b r0_l r0_c r1 w'
theorem connm_Conn_OpenPassive.Call.mono {c iss syn_0 syn_1 syn_2 syn_3 syn_4 syn_5 syn_6_b syn_6_l syn_6_c} {w : World} {R R' : Option Addr → Nat → Nat → Int → World → Prop} (h : connm_Conn_OpenPassive.Call c iss syn_0 syn_1 syn_2 syn_3 syn_4 syn_5 syn_6_b syn_6_l syn_6_c w R) (hr : ∀ r0_b r0_l r0_c r1 w', R r0_b r0_l r0_c r1 w' → R' r0_b r0_l r0_c r1 w') : connm_Conn_OpenPassive.Call c iss syn_0 syn_1 syn_2 syn_3 syn_4 syn_5 syn_6_b syn_6_l syn_6_c w R' :=
  Calls.mono h fun e w' he => by
    obtain ⟨r0_b, r0_l, r0_c, r1, h1, h2⟩ := he
    exact ⟨r0_b, r0_l, r0_c, r1, h1, hr r0_b r0_l r0_c r1 w' h2⟩
def connm_Conn_OpenPassive.RV (R : Option Addr → Nat → Nat → Int → World → Prop) (v : Value) (w : World) : Prop := match v with
  | .tuple ⟨[.slice r0_b r0_l r0_c, .int .i64 r1]⟩ => R r0_b r0_l r0_c r1 w
  | _ => False
theorem connm_Conn_OpenPassive.RV_elim {R : Option Addr → Nat → Nat → Int → World → Prop} {v : Value} {w : World} (h : connm_Conn_OpenPassive.RV R v w) : ∃ r0_b r0_l r0_c r1, Ending.returned v = .returned (.tuple #[.slice r0_b r0_l r0_c, .int .i64 r1]) ∧ R r0_b r0_l r0_c r1 w := by
  unfold connm_Conn_OpenPassive.RV at h
  split at h
  · exact ⟨_, _, _, _, rfl, h⟩
  · exact h.elim
/-- (*e2e/conn.Conn).wipe -/
def conn_Conn_wipe.Call (c : Option Addr) (w : World) (R : World → Prop) : Prop :=
  Calls Tryz.prog 74 #[.pointer c] w fun e w' => e = .returned (.tuple #[]) ∧ R w'
theorem conn_Conn_wipe.Call.mono {c} {w : World} {R R' : World → Prop} (h : conn_Conn_wipe.Call c w R) (hr : ∀ w', R w' → R'  w') : conn_Conn_wipe.Call c w R' :=
  Calls.mono h fun e w' he => by
    obtain ⟨h1, h2⟩ := he
    exact ⟨h1, hr  w' h2⟩
def conn_Conn_wipe.RV (R : World → Prop) (v : Value) (w : World) : Prop := match v with
  | .tuple ⟨[]⟩ => R w
  | _ => False
theorem conn_Conn_wipe.RV_elim {R : World → Prop} {v : Value} {w : World} (h : conn_Conn_wipe.RV R v w) : Ending.returned v = .returned (.tuple #[]) ∧ R w := by
  unfold conn_Conn_wipe.RV at h
  split at h
  · exact ⟨rfl, h⟩
  · exact h.elim
/-- (*e2e/conn.Conn).fail -/
def conn_Conn_fail.Call (c : Option Addr) (why : Int) (w : World) (R : World → Prop) : Prop :=
  Calls Tryz.prog 75 #[.pointer c, .int .i64 why] w fun e w' => e = .returned (.tuple #[]) ∧ R w'
theorem conn_Conn_fail.Call.mono {c why} {w : World} {R R' : World → Prop} (h : conn_Conn_fail.Call c why w R) (hr : ∀ w', R w' → R'  w') : conn_Conn_fail.Call c why w R' :=
  Calls.mono h fun e w' he => by
    obtain ⟨h1, h2⟩ := he
    exact ⟨h1, hr  w' h2⟩
def conn_Conn_fail.RV (R : World → Prop) (v : Value) (w : World) : Prop := match v with
  | .tuple ⟨[]⟩ => R w
  | _ => False
theorem conn_Conn_fail.RV_elim {R : World → Prop} {v : Value} {w : World} (h : conn_Conn_fail.RV R v w) : Ending.returned v = .returned (.tuple #[]) ∧ R w := by
  unfold conn_Conn_fail.RV at h
  split at h
  · exact ⟨rfl, h⟩
  · exact h.elim
/-- (*e2e/conn.Conn).arm -/
def conn_Conn_arm.Call (c : Option Addr) (w : World) (R : World → Prop) : Prop :=
  Calls Tryz.prog 76 #[.pointer c] w fun e w' => e = .returned (.tuple #[]) ∧ R w'
theorem conn_Conn_arm.Call.mono {c} {w : World} {R R' : World → Prop} (h : conn_Conn_arm.Call c w R) (hr : ∀ w', R w' → R'  w') : conn_Conn_arm.Call c w R' :=
  Calls.mono h fun e w' he => by
    obtain ⟨h1, h2⟩ := he
    exact ⟨h1, hr  w' h2⟩
def conn_Conn_arm.RV (R : World → Prop) (v : Value) (w : World) : Prop := match v with
  | .tuple ⟨[]⟩ => R w
  | _ => False
theorem conn_Conn_arm.RV_elim {R : World → Prop} {v : Value} {w : World} (h : conn_Conn_arm.RV R v w) : Ending.returned v = .returned (.tuple #[]) ∧ R w := by
  unfold conn_Conn_arm.RV at h
  split at h
  · exact ⟨rfl, h⟩
  · exact h.elim
/-- (*e2e/conn.Conn).pump -/
def conn_Conn_pump.Call (c : Option Addr) (w : World) (R : Option Addr → Nat → Nat → World → Prop) : Prop :=
  Calls Tryz.prog 77 #[.pointer c] w fun e w' => ∃ r_b r_l r_c, e = .returned (.slice r_b r_l r_c) ∧ R r_b r_l r_c w'
theorem conn_Conn_pump.Call.mono {c} {w : World} {R R' : Option Addr → Nat → Nat → World → Prop} (h : conn_Conn_pump.Call c w R) (hr : ∀ r_b r_l r_c w', R r_b r_l r_c w' → R' r_b r_l r_c w') : conn_Conn_pump.Call c w R' :=
  Calls.mono h fun e w' he => by
    obtain ⟨r_b, r_l, r_c, h1, h2⟩ := he
    exact ⟨r_b, r_l, r_c, h1, hr r_b r_l r_c w' h2⟩
def conn_Conn_pump.RV (R : Option Addr → Nat → Nat → World → Prop) (v : Value) (w : World) : Prop := match v with
  | .slice r_b r_l r_c => R r_b r_l r_c w
  | _ => False
theorem conn_Conn_pump.RV_elim {R : Option Addr → Nat → Nat → World → Prop} {v : Value} {w : World} (h : conn_Conn_pump.RV R v w) : ∃ r_b r_l r_c, Ending.returned v = .returned (.slice r_b r_l r_c) ∧ R r_b r_l r_c w := by
  unfold conn_Conn_pump.RV at h
  split at h
  · exact ⟨_, _, _, rfl, h⟩
  · exact h.elim
/-- (*e2e/connm.Conn).fail -/
def connm_Conn_fail.Call (c : Option Addr) (why : Int) (w : World) (R : World → Prop) : Prop :=
  Calls Tryz.prog 78 #[.pointer c, .int .i64 why] w fun e w' => e = .returned (.tuple #[]) ∧ R w'
theorem connm_Conn_fail.Call.mono {c why} {w : World} {R R' : World → Prop} (h : connm_Conn_fail.Call c why w R) (hr : ∀ w', R w' → R'  w') : connm_Conn_fail.Call c why w R' :=
  Calls.mono h fun e w' he => by
    obtain ⟨h1, h2⟩ := he
    exact ⟨h1, hr  w' h2⟩
def connm_Conn_fail.RV (R : World → Prop) (v : Value) (w : World) : Prop := match v with
  | .tuple ⟨[]⟩ => R w
  | _ => False
theorem connm_Conn_fail.RV_elim {R : World → Prop} {v : Value} {w : World} (h : connm_Conn_fail.RV R v w) : Ending.returned v = .returned (.tuple #[]) ∧ R w := by
  unfold connm_Conn_fail.RV at h
  split at h
  · exact ⟨rfl, h⟩
  · exact h.elim
/-- (*e2e/connm.Conn).arm -/
def connm_Conn_arm.Call (c : Option Addr) (w : World) (R : World → Prop) : Prop :=
  Calls Tryz.prog 79 #[.pointer c] w fun e w' => e = .returned (.tuple #[]) ∧ R w'
theorem connm_Conn_arm.Call.mono {c} {w : World} {R R' : World → Prop} (h : connm_Conn_arm.Call c w R) (hr : ∀ w', R w' → R'  w') : connm_Conn_arm.Call c w R' :=
  Calls.mono h fun e w' he => by
    obtain ⟨h1, h2⟩ := he
    exact ⟨h1, hr  w' h2⟩
def connm_Conn_arm.RV (R : World → Prop) (v : Value) (w : World) : Prop := match v with
  | .tuple ⟨[]⟩ => R w
  | _ => False
theorem connm_Conn_arm.RV_elim {R : World → Prop} {v : Value} {w : World} (h : connm_Conn_arm.RV R v w) : Ending.returned v = .returned (.tuple #[]) ∧ R w := by
  unfold connm_Conn_arm.RV at h
  split at h
  · exact ⟨rfl, h⟩
  · exact h.elim
/-- (*e2e/connm.Conn).pump -/
def connm_Conn_pump.Call (c : Option Addr) (w : World) (R : Option Addr → Nat → Nat → World → Prop) : Prop :=
  Calls Tryz.prog 80 #[.pointer c] w fun e w' => ∃ r_b r_l r_c, e = .returned (.slice r_b r_l r_c) ∧ R r_b r_l r_c w'
theorem connm_Conn_pump.Call.mono {c} {w : World} {R R' : Option Addr → Nat → Nat → World → Prop} (h : connm_Conn_pump.Call c w R) (hr : ∀ r_b r_l r_c w', R r_b r_l r_c w' → R' r_b r_l r_c w') : connm_Conn_pump.Call c w R' :=
  Calls.mono h fun e w' he => by
    obtain ⟨r_b, r_l, r_c, h1, h2⟩ := he
    exact ⟨r_b, r_l, r_c, h1, hr r_b r_l r_c w' h2⟩
def connm_Conn_pump.RV (R : Option Addr → Nat → Nat → World → Prop) (v : Value) (w : World) : Prop := match v with
  | .slice r_b r_l r_c => R r_b r_l r_c w
  | _ => False
theorem connm_Conn_pump.RV_elim {R : Option Addr → Nat → Nat → World → Prop} {v : Value} {w : World} (h : connm_Conn_pump.RV R v w) : ∃ r_b r_l r_c, Ending.returned v = .returned (.slice r_b r_l r_c) ∧ R r_b r_l r_c w := by
  unfold connm_Conn_pump.RV at h
  split at h
  · exact ⟨_, _, _, rfl, h⟩
  · exact h.elim
/-- (*e2e/conn.Conn).ended -/
def conn_Conn_ended.Call (c : Option Addr) (w : World) (R : Int → World → Prop) : Prop :=
  Calls Tryz.prog 81 #[.pointer c] w fun e w' => ∃ r, e = .returned (.int .i64 r) ∧ R r w'
theorem conn_Conn_ended.Call.mono {c} {w : World} {R R' : Int → World → Prop} (h : conn_Conn_ended.Call c w R) (hr : ∀ r w', R r w' → R' r w') : conn_Conn_ended.Call c w R' :=
  Calls.mono h fun e w' he => by
    obtain ⟨r, h1, h2⟩ := he
    exact ⟨r, h1, hr r w' h2⟩
def conn_Conn_ended.RV (R : Int → World → Prop) (v : Value) (w : World) : Prop := match v with
  | .int .i64 r => R r w
  | _ => False
theorem conn_Conn_ended.RV_elim {R : Int → World → Prop} {v : Value} {w : World} (h : conn_Conn_ended.RV R v w) : ∃ r, Ending.returned v = .returned (.int .i64 r) ∧ R r w := by
  unfold conn_Conn_ended.RV at h
  split at h
  · exact ⟨_, rfl, h⟩
  · exact h.elim
/-- (*e2e/connm.Conn).ended -/
def connm_Conn_ended.Call (c : Option Addr) (w : World) (R : Int → World → Prop) : Prop :=
  Calls Tryz.prog 82 #[.pointer c] w fun e w' => ∃ r, e = .returned (.int .i64 r) ∧ R r w'
theorem connm_Conn_ended.Call.mono {c} {w : World} {R R' : Int → World → Prop} (h : connm_Conn_ended.Call c w R) (hr : ∀ r w', R r w' → R' r w') : connm_Conn_ended.Call c w R' :=
  Calls.mono h fun e w' he => by
    obtain ⟨r, h1, h2⟩ := he
    exact ⟨r, h1, hr r w' h2⟩
def connm_Conn_ended.RV (R : Int → World → Prop) (v : Value) (w : World) : Prop := match v with
  | .int .i64 r => R r w
  | _ => False
theorem connm_Conn_ended.RV_elim {R : Int → World → Prop} {v : Value} {w : World} (h : connm_Conn_ended.RV R v w) : ∃ r, Ending.returned v = .returned (.int .i64 r) ∧ R r w := by
  unfold connm_Conn_ended.RV at h
  split at h
  · exact ⟨_, rfl, h⟩
  · exact h.elim
/-- (*e2e/seg.SendBuf).Put -/
def seg_SendBuf_Put.Call (b p_b : Option Addr) (p_l p_c : Nat) (w : World) (R : Int → World → Prop) : Prop :=
  Calls Tryz.prog 83 #[.pointer b, .slice p_b p_l p_c] w fun e w' => ∃ r, e = .returned (.int .i64 r) ∧ R r w'
theorem seg_SendBuf_Put.Call.mono {b p_b p_l p_c} {w : World} {R R' : Int → World → Prop} (h : seg_SendBuf_Put.Call b p_b p_l p_c w R) (hr : ∀ r w', R r w' → R' r w') : seg_SendBuf_Put.Call b p_b p_l p_c w R' :=
  Calls.mono h fun e w' he => by
    obtain ⟨r, h1, h2⟩ := he
    exact ⟨r, h1, hr r w' h2⟩
def seg_SendBuf_Put.RV (R : Int → World → Prop) (v : Value) (w : World) : Prop := match v with
  | .int .i64 r => R r w
  | _ => False
theorem seg_SendBuf_Put.RV_elim {R : Int → World → Prop} {v : Value} {w : World} (h : seg_SendBuf_Put.RV R v w) : ∃ r, Ending.returned v = .returned (.int .i64 r) ∧ R r w := by
  unfold seg_SendBuf_Put.RV at h
  split at h
  · exact ⟨_, rfl, h⟩
  · exact h.elim
/-- (*e2e/seg.RecvBuf).Read -/
def seg_RecvBuf_Read.Call (b : Option Addr) (max : Int) (w : World) (R : Option Addr → Nat → Nat → World → Prop) : Prop :=
  Calls Tryz.prog 84 #[.pointer b, .int .i64 max] w fun e w' => ∃ r_b r_l r_c, e = .returned (.slice r_b r_l r_c) ∧ R r_b r_l r_c w'
theorem seg_RecvBuf_Read.Call.mono {b max} {w : World} {R R' : Option Addr → Nat → Nat → World → Prop} (h : seg_RecvBuf_Read.Call b max w R) (hr : ∀ r_b r_l r_c w', R r_b r_l r_c w' → R' r_b r_l r_c w') : seg_RecvBuf_Read.Call b max w R' :=
  Calls.mono h fun e w' he => by
    obtain ⟨r_b, r_l, r_c, h1, h2⟩ := he
    exact ⟨r_b, r_l, r_c, h1, hr r_b r_l r_c w' h2⟩
def seg_RecvBuf_Read.RV (R : Option Addr → Nat → Nat → World → Prop) (v : Value) (w : World) : Prop := match v with
  | .slice r_b r_l r_c => R r_b r_l r_c w
  | _ => False
theorem seg_RecvBuf_Read.RV_elim {R : Option Addr → Nat → Nat → World → Prop} {v : Value} {w : World} (h : seg_RecvBuf_Read.RV R v w) : ∃ r_b r_l r_c, Ending.returned v = .returned (.slice r_b r_l r_c) ∧ R r_b r_l r_c w := by
  unfold seg_RecvBuf_Read.RV at h
  split at h
  · exact ⟨_, _, _, rfl, h⟩
  · exact h.elim
/-- (*e2e/conn.Conn).ack -/
def conn_Conn_ack.Call (c : Option Addr) (w : World) (R : Int → Int → Int → Int → Int → Int → Option Addr → Nat → Nat → World → Prop) : Prop :=
  Calls Tryz.prog 85 #[.pointer c] w fun e w' => ∃ r_0 r_1 r_2 r_3 r_4 r_5 r_6_b r_6_l r_6_c, e = .returned (.agg #[.int .i64 r_0, .int .i64 r_1, .int .i64 r_2, .int .i64 r_3, .int .i64 r_4, .int .i64 r_5, .slice r_6_b r_6_l r_6_c]) ∧ R r_0 r_1 r_2 r_3 r_4 r_5 r_6_b r_6_l r_6_c w'
theorem conn_Conn_ack.Call.mono {c} {w : World} {R R' : Int → Int → Int → Int → Int → Int → Option Addr → Nat → Nat → World → Prop} (h : conn_Conn_ack.Call c w R) (hr : ∀ r_0 r_1 r_2 r_3 r_4 r_5 r_6_b r_6_l r_6_c w', R r_0 r_1 r_2 r_3 r_4 r_5 r_6_b r_6_l r_6_c w' → R' r_0 r_1 r_2 r_3 r_4 r_5 r_6_b r_6_l r_6_c w') : conn_Conn_ack.Call c w R' :=
  Calls.mono h fun e w' he => by
    obtain ⟨r_0, r_1, r_2, r_3, r_4, r_5, r_6_b, r_6_l, r_6_c, h1, h2⟩ := he
    exact ⟨r_0, r_1, r_2, r_3, r_4, r_5, r_6_b, r_6_l, r_6_c, h1, hr r_0 r_1 r_2 r_3 r_4 r_5 r_6_b r_6_l r_6_c w' h2⟩
def conn_Conn_ack.RV (R : Int → Int → Int → Int → Int → Int → Option Addr → Nat → Nat → World → Prop) (v : Value) (w : World) : Prop := match v with
  | .agg ⟨[.int .i64 r_0, .int .i64 r_1, .int .i64 r_2, .int .i64 r_3, .int .i64 r_4, .int .i64 r_5, .slice r_6_b r_6_l r_6_c]⟩ => R r_0 r_1 r_2 r_3 r_4 r_5 r_6_b r_6_l r_6_c w
  | _ => False
theorem conn_Conn_ack.RV_elim {R : Int → Int → Int → Int → Int → Int → Option Addr → Nat → Nat → World → Prop} {v : Value} {w : World} (h : conn_Conn_ack.RV R v w) : ∃ r_0 r_1 r_2 r_3 r_4 r_5 r_6_b r_6_l r_6_c, Ending.returned v = .returned (.agg #[.int .i64 r_0, .int .i64 r_1, .int .i64 r_2, .int .i64 r_3, .int .i64 r_4, .int .i64 r_5, .slice r_6_b r_6_l r_6_c]) ∧ R r_0 r_1 r_2 r_3 r_4 r_5 r_6_b r_6_l r_6_c w := by
  unfold conn_Conn_ack.RV at h
  split at h
  · exact ⟨_, _, _, _, _, _, _, _, _, rfl, h⟩
  · exact h.elim
/-- (*e2e/connm.Conn).ack -/
def connm_Conn_ack.Call (c : Option Addr) (w : World) (R : Int → Int → Int → Int → Int → Int → Option Addr → Nat → Nat → World → Prop) : Prop :=
  Calls Tryz.prog 86 #[.pointer c] w fun e w' => ∃ r_0 r_1 r_2 r_3 r_4 r_5 r_6_b r_6_l r_6_c, e = .returned (.agg #[.int .i64 r_0, .int .i64 r_1, .int .i64 r_2, .int .i64 r_3, .int .i64 r_4, .int .i64 r_5, .slice r_6_b r_6_l r_6_c]) ∧ R r_0 r_1 r_2 r_3 r_4 r_5 r_6_b r_6_l r_6_c w'
theorem connm_Conn_ack.Call.mono {c} {w : World} {R R' : Int → Int → Int → Int → Int → Int → Option Addr → Nat → Nat → World → Prop} (h : connm_Conn_ack.Call c w R) (hr : ∀ r_0 r_1 r_2 r_3 r_4 r_5 r_6_b r_6_l r_6_c w', R r_0 r_1 r_2 r_3 r_4 r_5 r_6_b r_6_l r_6_c w' → R' r_0 r_1 r_2 r_3 r_4 r_5 r_6_b r_6_l r_6_c w') : connm_Conn_ack.Call c w R' :=
  Calls.mono h fun e w' he => by
    obtain ⟨r_0, r_1, r_2, r_3, r_4, r_5, r_6_b, r_6_l, r_6_c, h1, h2⟩ := he
    exact ⟨r_0, r_1, r_2, r_3, r_4, r_5, r_6_b, r_6_l, r_6_c, h1, hr r_0 r_1 r_2 r_3 r_4 r_5 r_6_b r_6_l r_6_c w' h2⟩
def connm_Conn_ack.RV (R : Int → Int → Int → Int → Int → Int → Option Addr → Nat → Nat → World → Prop) (v : Value) (w : World) : Prop := match v with
  | .agg ⟨[.int .i64 r_0, .int .i64 r_1, .int .i64 r_2, .int .i64 r_3, .int .i64 r_4, .int .i64 r_5, .slice r_6_b r_6_l r_6_c]⟩ => R r_0 r_1 r_2 r_3 r_4 r_5 r_6_b r_6_l r_6_c w
  | _ => False
theorem connm_Conn_ack.RV_elim {R : Int → Int → Int → Int → Int → Int → Option Addr → Nat → Nat → World → Prop} {v : Value} {w : World} (h : connm_Conn_ack.RV R v w) : ∃ r_0 r_1 r_2 r_3 r_4 r_5 r_6_b r_6_l r_6_c, Ending.returned v = .returned (.agg #[.int .i64 r_0, .int .i64 r_1, .int .i64 r_2, .int .i64 r_3, .int .i64 r_4, .int .i64 r_5, .slice r_6_b r_6_l r_6_c]) ∧ R r_0 r_1 r_2 r_3 r_4 r_5 r_6_b r_6_l r_6_c w := by
  unfold connm_Conn_ack.RV at h
  split at h
  · exact ⟨_, _, _, _, _, _, _, _, _, rfl, h⟩
  · exact h.elim
/-- e2e/conn.rst -/
def conn_rst.Call (seq : Int) (w : World) (R : Int → Int → Int → Int → Int → Int → Option Addr → Nat → Nat → World → Prop) : Prop :=
  Calls Tryz.prog 87 #[.int .i64 seq] w fun e w' => ∃ r_0 r_1 r_2 r_3 r_4 r_5 r_6_b r_6_l r_6_c, e = .returned (.agg #[.int .i64 r_0, .int .i64 r_1, .int .i64 r_2, .int .i64 r_3, .int .i64 r_4, .int .i64 r_5, .slice r_6_b r_6_l r_6_c]) ∧ R r_0 r_1 r_2 r_3 r_4 r_5 r_6_b r_6_l r_6_c w'
theorem conn_rst.Call.mono {seq} {w : World} {R R' : Int → Int → Int → Int → Int → Int → Option Addr → Nat → Nat → World → Prop} (h : conn_rst.Call seq w R) (hr : ∀ r_0 r_1 r_2 r_3 r_4 r_5 r_6_b r_6_l r_6_c w', R r_0 r_1 r_2 r_3 r_4 r_5 r_6_b r_6_l r_6_c w' → R' r_0 r_1 r_2 r_3 r_4 r_5 r_6_b r_6_l r_6_c w') : conn_rst.Call seq w R' :=
  Calls.mono h fun e w' he => by
    obtain ⟨r_0, r_1, r_2, r_3, r_4, r_5, r_6_b, r_6_l, r_6_c, h1, h2⟩ := he
    exact ⟨r_0, r_1, r_2, r_3, r_4, r_5, r_6_b, r_6_l, r_6_c, h1, hr r_0 r_1 r_2 r_3 r_4 r_5 r_6_b r_6_l r_6_c w' h2⟩
def conn_rst.RV (R : Int → Int → Int → Int → Int → Int → Option Addr → Nat → Nat → World → Prop) (v : Value) (w : World) : Prop := match v with
  | .agg ⟨[.int .i64 r_0, .int .i64 r_1, .int .i64 r_2, .int .i64 r_3, .int .i64 r_4, .int .i64 r_5, .slice r_6_b r_6_l r_6_c]⟩ => R r_0 r_1 r_2 r_3 r_4 r_5 r_6_b r_6_l r_6_c w
  | _ => False
theorem conn_rst.RV_elim {R : Int → Int → Int → Int → Int → Int → Option Addr → Nat → Nat → World → Prop} {v : Value} {w : World} (h : conn_rst.RV R v w) : ∃ r_0 r_1 r_2 r_3 r_4 r_5 r_6_b r_6_l r_6_c, Ending.returned v = .returned (.agg #[.int .i64 r_0, .int .i64 r_1, .int .i64 r_2, .int .i64 r_3, .int .i64 r_4, .int .i64 r_5, .slice r_6_b r_6_l r_6_c]) ∧ R r_0 r_1 r_2 r_3 r_4 r_5 r_6_b r_6_l r_6_c w := by
  unfold conn_rst.RV at h
  split at h
  · exact ⟨_, _, _, _, _, _, _, _, _, rfl, h⟩
  · exact h.elim
/-- e2e/connm.rst -/
def connm_rst.Call (seq : Int) (w : World) (R : Int → Int → Int → Int → Int → Int → Option Addr → Nat → Nat → World → Prop) : Prop :=
  Calls Tryz.prog 88 #[.int .i64 seq] w fun e w' => ∃ r_0 r_1 r_2 r_3 r_4 r_5 r_6_b r_6_l r_6_c, e = .returned (.agg #[.int .i64 r_0, .int .i64 r_1, .int .i64 r_2, .int .i64 r_3, .int .i64 r_4, .int .i64 r_5, .slice r_6_b r_6_l r_6_c]) ∧ R r_0 r_1 r_2 r_3 r_4 r_5 r_6_b r_6_l r_6_c w'
theorem connm_rst.Call.mono {seq} {w : World} {R R' : Int → Int → Int → Int → Int → Int → Option Addr → Nat → Nat → World → Prop} (h : connm_rst.Call seq w R) (hr : ∀ r_0 r_1 r_2 r_3 r_4 r_5 r_6_b r_6_l r_6_c w', R r_0 r_1 r_2 r_3 r_4 r_5 r_6_b r_6_l r_6_c w' → R' r_0 r_1 r_2 r_3 r_4 r_5 r_6_b r_6_l r_6_c w') : connm_rst.Call seq w R' :=
  Calls.mono h fun e w' he => by
    obtain ⟨r_0, r_1, r_2, r_3, r_4, r_5, r_6_b, r_6_l, r_6_c, h1, h2⟩ := he
    exact ⟨r_0, r_1, r_2, r_3, r_4, r_5, r_6_b, r_6_l, r_6_c, h1, hr r_0 r_1 r_2 r_3 r_4 r_5 r_6_b r_6_l r_6_c w' h2⟩
def connm_rst.RV (R : Int → Int → Int → Int → Int → Int → Option Addr → Nat → Nat → World → Prop) (v : Value) (w : World) : Prop := match v with
  | .agg ⟨[.int .i64 r_0, .int .i64 r_1, .int .i64 r_2, .int .i64 r_3, .int .i64 r_4, .int .i64 r_5, .slice r_6_b r_6_l r_6_c]⟩ => R r_0 r_1 r_2 r_3 r_4 r_5 r_6_b r_6_l r_6_c w
  | _ => False
theorem connm_rst.RV_elim {R : Int → Int → Int → Int → Int → Int → Option Addr → Nat → Nat → World → Prop} {v : Value} {w : World} (h : connm_rst.RV R v w) : ∃ r_0 r_1 r_2 r_3 r_4 r_5 r_6_b r_6_l r_6_c, Ending.returned v = .returned (.agg #[.int .i64 r_0, .int .i64 r_1, .int .i64 r_2, .int .i64 r_3, .int .i64 r_4, .int .i64 r_5, .slice r_6_b r_6_l r_6_c]) ∧ R r_0 r_1 r_2 r_3 r_4 r_5 r_6_b r_6_l r_6_c w := by
  unfold connm_rst.RV at h
  split at h
  · exact ⟨_, _, _, _, _, _, _, _, _, rfl, h⟩
  · exact h.elim
/-- (*e2e/seg.SendBuf).span -/
def seg_SendBuf_span.Call (b : Option Addr) (off n : Int) (w : World) (R : Option Addr → Nat → Nat → World → Prop) : Prop :=
  Calls Tryz.prog 89 #[.pointer b, .int .i64 off, .int .i64 n] w fun e w' => ∃ r_b r_l r_c, e = .returned (.slice r_b r_l r_c) ∧ R r_b r_l r_c w'
theorem seg_SendBuf_span.Call.mono {b off n} {w : World} {R R' : Option Addr → Nat → Nat → World → Prop} (h : seg_SendBuf_span.Call b off n w R) (hr : ∀ r_b r_l r_c w', R r_b r_l r_c w' → R' r_b r_l r_c w') : seg_SendBuf_span.Call b off n w R' :=
  Calls.mono h fun e w' he => by
    obtain ⟨r_b, r_l, r_c, h1, h2⟩ := he
    exact ⟨r_b, r_l, r_c, h1, hr r_b r_l r_c w' h2⟩
def seg_SendBuf_span.RV (R : Option Addr → Nat → Nat → World → Prop) (v : Value) (w : World) : Prop := match v with
  | .slice r_b r_l r_c => R r_b r_l r_c w
  | _ => False
theorem seg_SendBuf_span.RV_elim {R : Option Addr → Nat → Nat → World → Prop} {v : Value} {w : World} (h : seg_SendBuf_span.RV R v w) : ∃ r_b r_l r_c, Ending.returned v = .returned (.slice r_b r_l r_c) ∧ R r_b r_l r_c w := by
  unfold seg_SendBuf_span.RV at h
  split at h
  · exact ⟨_, _, _, rfl, h⟩
  · exact h.elim
/-- (*e2e/seg.RecvBuf).first -/
def seg_RecvBuf_first.Call (b : Option Addr) (n : Int) (w : World) (R : Option Addr → Nat → Nat → World → Prop) : Prop :=
  Calls Tryz.prog 90 #[.pointer b, .int .i64 n] w fun e w' => ∃ r_b r_l r_c, e = .returned (.slice r_b r_l r_c) ∧ R r_b r_l r_c w'
theorem seg_RecvBuf_first.Call.mono {b n} {w : World} {R R' : Option Addr → Nat → Nat → World → Prop} (h : seg_RecvBuf_first.Call b n w R) (hr : ∀ r_b r_l r_c w', R r_b r_l r_c w' → R' r_b r_l r_c w') : seg_RecvBuf_first.Call b n w R' :=
  Calls.mono h fun e w' he => by
    obtain ⟨r_b, r_l, r_c, h1, h2⟩ := he
    exact ⟨r_b, r_l, r_c, h1, hr r_b r_l r_c w' h2⟩
def seg_RecvBuf_first.RV (R : Option Addr → Nat → Nat → World → Prop) (v : Value) (w : World) : Prop := match v with
  | .slice r_b r_l r_c => R r_b r_l r_c w
  | _ => False
theorem seg_RecvBuf_first.RV_elim {R : Option Addr → Nat → Nat → World → Prop} {v : Value} {w : World} (h : seg_RecvBuf_first.RV R v w) : ∃ r_b r_l r_c, Ending.returned v = .returned (.slice r_b r_l r_c) ∧ R r_b r_l r_c w := by
  unfold seg_RecvBuf_first.RV at h
  split at h
  · exact ⟨_, _, _, rfl, h⟩
  · exact h.elim
/-- (*e2e/seg.RecvBuf).bit -/
def seg_RecvBuf_bit.Call (b : Option Addr) (d : Int) (w : World) (R : Int → World → Prop) : Prop :=
  Calls Tryz.prog 91 #[.pointer b, .int .i64 d] w fun e w' => ∃ r, e = .returned (.int .u16 r) ∧ R r w'
theorem seg_RecvBuf_bit.Call.mono {b d} {w : World} {R R' : Int → World → Prop} (h : seg_RecvBuf_bit.Call b d w R) (hr : ∀ r w', R r w' → R' r w') : seg_RecvBuf_bit.Call b d w R' :=
  Calls.mono h fun e w' he => by
    obtain ⟨r, h1, h2⟩ := he
    exact ⟨r, h1, hr r w' h2⟩
def seg_RecvBuf_bit.RV (R : Int → World → Prop) (v : Value) (w : World) : Prop := match v with
  | .int .u16 r => R r w
  | _ => False
theorem seg_RecvBuf_bit.RV_elim {R : Int → World → Prop} {v : Value} {w : World} (h : seg_RecvBuf_bit.RV R v w) : ∃ r, Ending.returned v = .returned (.int .u16 r) ∧ R r w := by
  unfold seg_RecvBuf_bit.RV at h
  split at h
  · exact ⟨_, rfl, h⟩
  · exact h.elim
/-- (*e2e/seg.SendBuf).Una -/
def seg_SendBuf_Una.Call (b : Option Addr) (w : World) (R : Int → World → Prop) : Prop :=
  Calls Tryz.prog 92 #[.pointer b] w fun e w' => ∃ r, e = .returned (.int .i64 r) ∧ R r w'
theorem seg_SendBuf_Una.Call.mono {b} {w : World} {R R' : Int → World → Prop} (h : seg_SendBuf_Una.Call b w R) (hr : ∀ r w', R r w' → R' r w') : seg_SendBuf_Una.Call b w R' :=
  Calls.mono h fun e w' he => by
    obtain ⟨r, h1, h2⟩ := he
    exact ⟨r, h1, hr r w' h2⟩
def seg_SendBuf_Una.RV (R : Int → World → Prop) (v : Value) (w : World) : Prop := match v with
  | .int .i64 r => R r w
  | _ => False
theorem seg_SendBuf_Una.RV_elim {R : Int → World → Prop} {v : Value} {w : World} (h : seg_SendBuf_Una.RV R v w) : ∃ r, Ending.returned v = .returned (.int .i64 r) ∧ R r w := by
  unfold seg_SendBuf_Una.RV at h
  split at h
  · exact ⟨_, rfl, h⟩
  · exact h.elim
/-- (*e2e/seg.RecvBuf).Nxt -/
def seg_RecvBuf_Nxt.Call (b : Option Addr) (w : World) (R : Int → World → Prop) : Prop :=
  Calls Tryz.prog 93 #[.pointer b] w fun e w' => ∃ r, e = .returned (.int .i64 r) ∧ R r w'
theorem seg_RecvBuf_Nxt.Call.mono {b} {w : World} {R R' : Int → World → Prop} (h : seg_RecvBuf_Nxt.Call b w R) (hr : ∀ r w', R r w' → R' r w') : seg_RecvBuf_Nxt.Call b w R' :=
  Calls.mono h fun e w' he => by
    obtain ⟨r, h1, h2⟩ := he
    exact ⟨r, h1, hr r w' h2⟩
def seg_RecvBuf_Nxt.RV (R : Int → World → Prop) (v : Value) (w : World) : Prop := match v with
  | .int .i64 r => R r w
  | _ => False
theorem seg_RecvBuf_Nxt.RV_elim {R : Int → World → Prop} {v : Value} {w : World} (h : seg_RecvBuf_Nxt.RV R v w) : ∃ r, Ending.returned v = .returned (.int .i64 r) ∧ R r w := by
  unfold seg_RecvBuf_Nxt.RV at h
  split at h
  · exact ⟨_, rfl, h⟩
  · exact h.elim
/-- (*e2e/conn.Conn).inQuiet -/
def conn_Conn_inQuiet.Call (c : Option Addr) (s_0 s_1 s_2 s_3 s_4 s_5 : Int) (s_6_b : Option Addr) (s_6_l s_6_c : Nat) (w : World) (R : Option Addr → Nat → Nat → World → Prop) : Prop :=
  Calls Tryz.prog 94 #[.pointer c, .agg #[.int .i64 s_0, .int .i64 s_1, .int .i64 s_2, .int .i64 s_3, .int .i64 s_4, .int .i64 s_5, .slice s_6_b s_6_l s_6_c]] w fun e w' => ∃ r_b r_l r_c, e = .returned (.slice r_b r_l r_c) ∧ R r_b r_l r_c w'
theorem conn_Conn_inQuiet.Call.mono {c s_0 s_1 s_2 s_3 s_4 s_5 s_6_b s_6_l s_6_c} {w : World} {R R' : Option Addr → Nat → Nat → World → Prop} (h : conn_Conn_inQuiet.Call c s_0 s_1 s_2 s_3 s_4 s_5 s_6_b s_6_l s_6_c w R) (hr : ∀ r_b r_l r_c w', R r_b r_l r_c w' → R' r_b r_l r_c w') : conn_Conn_inQuiet.Call c s_0 s_1 s_2 s_3 s_4 s_5 s_6_b s_6_l s_6_c w R' :=
  Calls.mono h fun e w' he => by
    obtain ⟨r_b, r_l, r_c, h1, h2⟩ := he
    exact ⟨r_b, r_l, r_c, h1, hr r_b r_l r_c w' h2⟩
def conn_Conn_inQuiet.RV (R : Option Addr → Nat → Nat → World → Prop) (v : Value) (w : World) : Prop := match v with
  | .slice r_b r_l r_c => R r_b r_l r_c w
  | _ => False
theorem conn_Conn_inQuiet.RV_elim {R : Option Addr → Nat → Nat → World → Prop} {v : Value} {w : World} (h : conn_Conn_inQuiet.RV R v w) : ∃ r_b r_l r_c, Ending.returned v = .returned (.slice r_b r_l r_c) ∧ R r_b r_l r_c w := by
  unfold conn_Conn_inQuiet.RV at h
  split at h
  · exact ⟨_, _, _, rfl, h⟩
  · exact h.elim
/-- (*e2e/conn.Conn).inSynSent -/
def conn_Conn_inSynSent.Call (c : Option Addr) (s_0 s_1 s_2 s_3 s_4 s_5 : Int) (s_6_b : Option Addr) (s_6_l s_6_c : Nat) (w : World) (R : Option Addr → Nat → Nat → World → Prop) : Prop :=
  Calls Tryz.prog 95 #[.pointer c, .agg #[.int .i64 s_0, .int .i64 s_1, .int .i64 s_2, .int .i64 s_3, .int .i64 s_4, .int .i64 s_5, .slice s_6_b s_6_l s_6_c]] w fun e w' => ∃ r_b r_l r_c, e = .returned (.slice r_b r_l r_c) ∧ R r_b r_l r_c w'
theorem conn_Conn_inSynSent.Call.mono {c s_0 s_1 s_2 s_3 s_4 s_5 s_6_b s_6_l s_6_c} {w : World} {R R' : Option Addr → Nat → Nat → World → Prop} (h : conn_Conn_inSynSent.Call c s_0 s_1 s_2 s_3 s_4 s_5 s_6_b s_6_l s_6_c w R) (hr : ∀ r_b r_l r_c w', R r_b r_l r_c w' → R' r_b r_l r_c w') : conn_Conn_inSynSent.Call c s_0 s_1 s_2 s_3 s_4 s_5 s_6_b s_6_l s_6_c w R' :=
  Calls.mono h fun e w' he => by
    obtain ⟨r_b, r_l, r_c, h1, h2⟩ := he
    exact ⟨r_b, r_l, r_c, h1, hr r_b r_l r_c w' h2⟩
def conn_Conn_inSynSent.RV (R : Option Addr → Nat → Nat → World → Prop) (v : Value) (w : World) : Prop := match v with
  | .slice r_b r_l r_c => R r_b r_l r_c w
  | _ => False
theorem conn_Conn_inSynSent.RV_elim {R : Option Addr → Nat → Nat → World → Prop} {v : Value} {w : World} (h : conn_Conn_inSynSent.RV R v w) : ∃ r_b r_l r_c, Ending.returned v = .returned (.slice r_b r_l r_c) ∧ R r_b r_l r_c w := by
  unfold conn_Conn_inSynSent.RV at h
  split at h
  · exact ⟨_, _, _, rfl, h⟩
  · exact h.elim
/-- (*e2e/conn.Conn).inSync -/
def conn_Conn_inSync.Call (c : Option Addr) (s_0 s_1 s_2 s_3 s_4 s_5 : Int) (s_6_b : Option Addr) (s_6_l s_6_c : Nat) (w : World) (R : Option Addr → Nat → Nat → World → Prop) : Prop :=
  Calls Tryz.prog 96 #[.pointer c, .agg #[.int .i64 s_0, .int .i64 s_1, .int .i64 s_2, .int .i64 s_3, .int .i64 s_4, .int .i64 s_5, .slice s_6_b s_6_l s_6_c]] w fun e w' => ∃ r_b r_l r_c, e = .returned (.slice r_b r_l r_c) ∧ R r_b r_l r_c w'
theorem conn_Conn_inSync.Call.mono {c s_0 s_1 s_2 s_3 s_4 s_5 s_6_b s_6_l s_6_c} {w : World} {R R' : Option Addr → Nat → Nat → World → Prop} (h : conn_Conn_inSync.Call c s_0 s_1 s_2 s_3 s_4 s_5 s_6_b s_6_l s_6_c w R) (hr : ∀ r_b r_l r_c w', R r_b r_l r_c w' → R' r_b r_l r_c w') : conn_Conn_inSync.Call c s_0 s_1 s_2 s_3 s_4 s_5 s_6_b s_6_l s_6_c w R' :=
  Calls.mono h fun e w' he => by
    obtain ⟨r_b, r_l, r_c, h1, h2⟩ := he
    exact ⟨r_b, r_l, r_c, h1, hr r_b r_l r_c w' h2⟩
def conn_Conn_inSync.RV (R : Option Addr → Nat → Nat → World → Prop) (v : Value) (w : World) : Prop := match v with
  | .slice r_b r_l r_c => R r_b r_l r_c w
  | _ => False
theorem conn_Conn_inSync.RV_elim {R : Option Addr → Nat → Nat → World → Prop} {v : Value} {w : World} (h : conn_Conn_inSync.RV R v w) : ∃ r_b r_l r_c, Ending.returned v = .returned (.slice r_b r_l r_c) ∧ R r_b r_l r_c w := by
  unfold conn_Conn_inSync.RV at h
  split at h
  · exact ⟨_, _, _, rfl, h⟩
  · exact h.elim
/-- e2e/connm.wnd -/
def connm_wnd.Call (w0 : Int) (w : World) (R : Int → World → Prop) : Prop :=
  Calls Tryz.prog 97 #[.int .i64 w0] w fun e w' => ∃ r, e = .returned (.int .i64 r) ∧ R r w'
theorem connm_wnd.Call.mono {w0} {w : World} {R R' : Int → World → Prop} (h : connm_wnd.Call w0 w R) (hr : ∀ r w', R r w' → R' r w') : connm_wnd.Call w0 w R' :=
  Calls.mono h fun e w' he => by
    obtain ⟨r, h1, h2⟩ := he
    exact ⟨r, h1, hr r w' h2⟩
def connm_wnd.RV (R : Int → World → Prop) (v : Value) (w : World) : Prop := match v with
  | .int .i64 r => R r w
  | _ => False
theorem connm_wnd.RV_elim {R : Int → World → Prop} {v : Value} {w : World} (h : connm_wnd.RV R v w) : ∃ r, Ending.returned v = .returned (.int .i64 r) ∧ R r w := by
  unfold connm_wnd.RV at h
  split at h
  · exact ⟨_, rfl, h⟩
  · exact h.elim
/-- e2e/api.SeqDiff -/
def api_SeqDiff.Call (a b : Int) (w : World) (R : Int → World → Prop) : Prop :=
  Calls Tryz.prog 98 #[.int .i64 a, .int .i64 b] w fun e w' => ∃ r, e = .returned (.int .i64 r) ∧ R r w'
theorem api_SeqDiff.Call.mono {a b} {w : World} {R R' : Int → World → Prop} (h : api_SeqDiff.Call a b w R) (hr : ∀ r w', R r w' → R' r w') : api_SeqDiff.Call a b w R' :=
  Calls.mono h fun e w' he => by
    obtain ⟨r, h1, h2⟩ := he
    exact ⟨r, h1, hr r w' h2⟩
def api_SeqDiff.RV (R : Int → World → Prop) (v : Value) (w : World) : Prop := match v with
  | .int .i64 r => R r w
  | _ => False
theorem api_SeqDiff.RV_elim {R : Int → World → Prop} {v : Value} {w : World} (h : api_SeqDiff.RV R v w) : ∃ r, Ending.returned v = .returned (.int .i64 r) ∧ R r w := by
  unfold api_SeqDiff.RV at h
  split at h
  · exact ⟨_, rfl, h⟩
  · exact h.elim
/-- (*e2e/connm.Conn).insert -/
def connm_Conn_insert.Call (c : Option Addr) (seq : Int) (p_b : Option Addr) (p_l p_c : Nat) (w : World) (R : World → Prop) : Prop :=
  Calls Tryz.prog 99 #[.pointer c, .int .i64 seq, .slice p_b p_l p_c] w fun e w' => e = .returned (.tuple #[]) ∧ R w'
theorem connm_Conn_insert.Call.mono {c seq p_b p_l p_c} {w : World} {R R' : World → Prop} (h : connm_Conn_insert.Call c seq p_b p_l p_c w R) (hr : ∀ w', R w' → R'  w') : connm_Conn_insert.Call c seq p_b p_l p_c w R' :=
  Calls.mono h fun e w' he => by
    obtain ⟨h1, h2⟩ := he
    exact ⟨h1, hr  w' h2⟩
def connm_Conn_insert.RV (R : World → Prop) (v : Value) (w : World) : Prop := match v with
  | .tuple ⟨[]⟩ => R w
  | _ => False
theorem connm_Conn_insert.RV_elim {R : World → Prop} {v : Value} {w : World} (h : connm_Conn_insert.RV R v w) : Ending.returned v = .returned (.tuple #[]) ∧ R w := by
  unfold connm_Conn_insert.RV at h
  split at h
  · exact ⟨rfl, h⟩
  · exact h.elim
/-- (*e2e/seg.SendBuf).Reset -/
def seg_SendBuf_Reset.Call (b : Option Addr) (seq : Int) (w : World) (R : World → Prop) : Prop :=
  Calls Tryz.prog 100 #[.pointer b, .int .i64 seq] w fun e w' => e = .returned (.tuple #[]) ∧ R w'
theorem seg_SendBuf_Reset.Call.mono {b seq} {w : World} {R R' : World → Prop} (h : seg_SendBuf_Reset.Call b seq w R) (hr : ∀ w', R w' → R'  w') : seg_SendBuf_Reset.Call b seq w R' :=
  Calls.mono h fun e w' he => by
    obtain ⟨h1, h2⟩ := he
    exact ⟨h1, hr  w' h2⟩
def seg_SendBuf_Reset.RV (R : World → Prop) (v : Value) (w : World) : Prop := match v with
  | .tuple ⟨[]⟩ => R w
  | _ => False
theorem seg_SendBuf_Reset.RV_elim {R : World → Prop} {v : Value} {w : World} (h : seg_SendBuf_Reset.RV R v w) : Ending.returned v = .returned (.tuple #[]) ∧ R w := by
  unfold seg_SendBuf_Reset.RV at h
  split at h
  · exact ⟨rfl, h⟩
  · exact h.elim
/-- (*e2e/conn.Conn).mk -/
def conn_Conn_mk.Call (c : Option Addr) (flags seq : Int) (data_b : Option Addr) (data_l data_c : Nat) (w : World) (R : Int → Int → Int → Int → Int → Int → Option Addr → Nat → Nat → World → Prop) : Prop :=
  Calls Tryz.prog 101 #[.pointer c, .int .i64 flags, .int .i64 seq, .slice data_b data_l data_c] w fun e w' => ∃ r_0 r_1 r_2 r_3 r_4 r_5 r_6_b r_6_l r_6_c, e = .returned (.agg #[.int .i64 r_0, .int .i64 r_1, .int .i64 r_2, .int .i64 r_3, .int .i64 r_4, .int .i64 r_5, .slice r_6_b r_6_l r_6_c]) ∧ R r_0 r_1 r_2 r_3 r_4 r_5 r_6_b r_6_l r_6_c w'
theorem conn_Conn_mk.Call.mono {c flags seq data_b data_l data_c} {w : World} {R R' : Int → Int → Int → Int → Int → Int → Option Addr → Nat → Nat → World → Prop} (h : conn_Conn_mk.Call c flags seq data_b data_l data_c w R) (hr : ∀ r_0 r_1 r_2 r_3 r_4 r_5 r_6_b r_6_l r_6_c w', R r_0 r_1 r_2 r_3 r_4 r_5 r_6_b r_6_l r_6_c w' → R' r_0 r_1 r_2 r_3 r_4 r_5 r_6_b r_6_l r_6_c w') : conn_Conn_mk.Call c flags seq data_b data_l data_c w R' :=
  Calls.mono h fun e w' he => by
    obtain ⟨r_0, r_1, r_2, r_3, r_4, r_5, r_6_b, r_6_l, r_6_c, h1, h2⟩ := he
    exact ⟨r_0, r_1, r_2, r_3, r_4, r_5, r_6_b, r_6_l, r_6_c, h1, hr r_0 r_1 r_2 r_3 r_4 r_5 r_6_b r_6_l r_6_c w' h2⟩
def conn_Conn_mk.RV (R : Int → Int → Int → Int → Int → Int → Option Addr → Nat → Nat → World → Prop) (v : Value) (w : World) : Prop := match v with
  | .agg ⟨[.int .i64 r_0, .int .i64 r_1, .int .i64 r_2, .int .i64 r_3, .int .i64 r_4, .int .i64 r_5, .slice r_6_b r_6_l r_6_c]⟩ => R r_0 r_1 r_2 r_3 r_4 r_5 r_6_b r_6_l r_6_c w
  | _ => False
theorem conn_Conn_mk.RV_elim {R : Int → Int → Int → Int → Int → Int → Option Addr → Nat → Nat → World → Prop} {v : Value} {w : World} (h : conn_Conn_mk.RV R v w) : ∃ r_0 r_1 r_2 r_3 r_4 r_5 r_6_b r_6_l r_6_c, Ending.returned v = .returned (.agg #[.int .i64 r_0, .int .i64 r_1, .int .i64 r_2, .int .i64 r_3, .int .i64 r_4, .int .i64 r_5, .slice r_6_b r_6_l r_6_c]) ∧ R r_0 r_1 r_2 r_3 r_4 r_5 r_6_b r_6_l r_6_c w := by
  unfold conn_Conn_mk.RV at h
  split at h
  · exact ⟨_, _, _, _, _, _, _, _, _, rfl, h⟩
  · exact h.elim
/-- (*e2e/seg.SendBuf).Again -/
def seg_SendBuf_Again.Call (b : Option Addr) (max : Int) (w : World) (R : Int → Option Addr → Nat → Nat → World → Prop) : Prop :=
  Calls Tryz.prog 102 #[.pointer b, .int .i64 max] w fun e w' => ∃ r0 r1_b r1_l r1_c, e = .returned (.tuple #[.int .i64 r0, .slice r1_b r1_l r1_c]) ∧ R r0 r1_b r1_l r1_c w'
theorem seg_SendBuf_Again.Call.mono {b max} {w : World} {R R' : Int → Option Addr → Nat → Nat → World → Prop} (h : seg_SendBuf_Again.Call b max w R) (hr : ∀ r0 r1_b r1_l r1_c w', R r0 r1_b r1_l r1_c w' → R' r0 r1_b r1_l r1_c w') : seg_SendBuf_Again.Call b max w R' :=
  Calls.mono h fun e w' he => by
    obtain ⟨r0, r1_b, r1_l, r1_c, h1, h2⟩ := he
    exact ⟨r0, r1_b, r1_l, r1_c, h1, hr r0 r1_b r1_l r1_c w' h2⟩
def seg_SendBuf_Again.RV (R : Int → Option Addr → Nat → Nat → World → Prop) (v : Value) (w : World) : Prop := match v with
  | .tuple ⟨[.int .i64 r0, .slice r1_b r1_l r1_c]⟩ => R r0 r1_b r1_l r1_c w
  | _ => False
theorem seg_SendBuf_Again.RV_elim {R : Int → Option Addr → Nat → Nat → World → Prop} {v : Value} {w : World} (h : seg_SendBuf_Again.RV R v w) : ∃ r0 r1_b r1_l r1_c, Ending.returned v = .returned (.tuple #[.int .i64 r0, .slice r1_b r1_l r1_c]) ∧ R r0 r1_b r1_l r1_c w := by
  unfold seg_SendBuf_Again.RV at h
  split at h
  · exact ⟨_, _, _, _, rfl, h⟩
  · exact h.elim
/-- (*e2e/connm.Conn).mk -/
def connm_Conn_mk.Call (c : Option Addr) (flags seq : Int) (data_b : Option Addr) (data_l data_c : Nat) (w : World) (R : Int → Int → Int → Int → Int → Int → Option Addr → Nat → Nat → World → Prop) : Prop :=
  Calls Tryz.prog 103 #[.pointer c, .int .i64 flags, .int .i64 seq, .slice data_b data_l data_c] w fun e w' => ∃ r_0 r_1 r_2 r_3 r_4 r_5 r_6_b r_6_l r_6_c, e = .returned (.agg #[.int .i64 r_0, .int .i64 r_1, .int .i64 r_2, .int .i64 r_3, .int .i64 r_4, .int .i64 r_5, .slice r_6_b r_6_l r_6_c]) ∧ R r_0 r_1 r_2 r_3 r_4 r_5 r_6_b r_6_l r_6_c w'
theorem connm_Conn_mk.Call.mono {c flags seq data_b data_l data_c} {w : World} {R R' : Int → Int → Int → Int → Int → Int → Option Addr → Nat → Nat → World → Prop} (h : connm_Conn_mk.Call c flags seq data_b data_l data_c w R) (hr : ∀ r_0 r_1 r_2 r_3 r_4 r_5 r_6_b r_6_l r_6_c w', R r_0 r_1 r_2 r_3 r_4 r_5 r_6_b r_6_l r_6_c w' → R' r_0 r_1 r_2 r_3 r_4 r_5 r_6_b r_6_l r_6_c w') : connm_Conn_mk.Call c flags seq data_b data_l data_c w R' :=
  Calls.mono h fun e w' he => by
    obtain ⟨r_0, r_1, r_2, r_3, r_4, r_5, r_6_b, r_6_l, r_6_c, h1, h2⟩ := he
    exact ⟨r_0, r_1, r_2, r_3, r_4, r_5, r_6_b, r_6_l, r_6_c, h1, hr r_0 r_1 r_2 r_3 r_4 r_5 r_6_b r_6_l r_6_c w' h2⟩
def connm_Conn_mk.RV (R : Int → Int → Int → Int → Int → Int → Option Addr → Nat → Nat → World → Prop) (v : Value) (w : World) : Prop := match v with
  | .agg ⟨[.int .i64 r_0, .int .i64 r_1, .int .i64 r_2, .int .i64 r_3, .int .i64 r_4, .int .i64 r_5, .slice r_6_b r_6_l r_6_c]⟩ => R r_0 r_1 r_2 r_3 r_4 r_5 r_6_b r_6_l r_6_c w
  | _ => False
theorem connm_Conn_mk.RV_elim {R : Int → Int → Int → Int → Int → Int → Option Addr → Nat → Nat → World → Prop} {v : Value} {w : World} (h : connm_Conn_mk.RV R v w) : ∃ r_0 r_1 r_2 r_3 r_4 r_5 r_6_b r_6_l r_6_c, Ending.returned v = .returned (.agg #[.int .i64 r_0, .int .i64 r_1, .int .i64 r_2, .int .i64 r_3, .int .i64 r_4, .int .i64 r_5, .slice r_6_b r_6_l r_6_c]) ∧ R r_0 r_1 r_2 r_3 r_4 r_5 r_6_b r_6_l r_6_c w := by
  unfold connm_Conn_mk.RV at h
  split at h
  · exact ⟨_, _, _, _, _, _, _, _, _, rfl, h⟩
  · exact h.elim
/-- e2e/connlaw.SameSeg -/
def connlaw_SameSeg.Call (a_0 a_1 a_2 a_3 a_4 a_5 : Int) (a_6_b : Option Addr) (a_6_l a_6_c : Nat) (b_0 b_1 b_2 b_3 b_4 b_5 : Int) (b_6_b : Option Addr) (b_6_l b_6_c : Nat) (w : World) (R : Bool → World → Prop) : Prop :=
  Calls Tryz.prog 104 #[.agg #[.int .i64 a_0, .int .i64 a_1, .int .i64 a_2, .int .i64 a_3, .int .i64 a_4, .int .i64 a_5, .slice a_6_b a_6_l a_6_c], .agg #[.int .i64 b_0, .int .i64 b_1, .int .i64 b_2, .int .i64 b_3, .int .i64 b_4, .int .i64 b_5, .slice b_6_b b_6_l b_6_c]] w fun e w' => ∃ r, e = .returned (.bool r) ∧ R r w'
theorem connlaw_SameSeg.Call.mono {a_0 a_1 a_2 a_3 a_4 a_5 a_6_b a_6_l a_6_c b_0 b_1 b_2 b_3 b_4 b_5 b_6_b b_6_l b_6_c} {w : World} {R R' : Bool → World → Prop} (h : connlaw_SameSeg.Call a_0 a_1 a_2 a_3 a_4 a_5 a_6_b a_6_l a_6_c b_0 b_1 b_2 b_3 b_4 b_5 b_6_b b_6_l b_6_c w R) (hr : ∀ r w', R r w' → R' r w') : connlaw_SameSeg.Call a_0 a_1 a_2 a_3 a_4 a_5 a_6_b a_6_l a_6_c b_0 b_1 b_2 b_3 b_4 b_5 b_6_b b_6_l b_6_c w R' :=
  Calls.mono h fun e w' he => by
    obtain ⟨r, h1, h2⟩ := he
    exact ⟨r, h1, hr r w' h2⟩
def connlaw_SameSeg.RV (R : Bool → World → Prop) (v : Value) (w : World) : Prop := match v with
  | .bool r => R r w
  | _ => False
theorem connlaw_SameSeg.RV_elim {R : Bool → World → Prop} {v : Value} {w : World} (h : connlaw_SameSeg.RV R v w) : ∃ r, Ending.returned v = .returned (.bool r) ∧ R r w := by
  unfold connlaw_SameSeg.RV at h
  split at h
  · exact ⟨_, rfl, h⟩
  · exact h.elim
/-- (*e2e/seg.RecvBuf).Reset -/
def seg_RecvBuf_Reset.Call (b : Option Addr) (seq : Int) (w : World) (R : World → Prop) : Prop :=
  Calls Tryz.prog 105 #[.pointer b, .int .i64 seq] w fun e w' => e = .returned (.tuple #[]) ∧ R w'
theorem seg_RecvBuf_Reset.Call.mono {b seq} {w : World} {R R' : World → Prop} (h : seg_RecvBuf_Reset.Call b seq w R) (hr : ∀ w', R w' → R'  w') : seg_RecvBuf_Reset.Call b seq w R' :=
  Calls.mono h fun e w' he => by
    obtain ⟨h1, h2⟩ := he
    exact ⟨h1, hr  w' h2⟩
def seg_RecvBuf_Reset.RV (R : World → Prop) (v : Value) (w : World) : Prop := match v with
  | .tuple ⟨[]⟩ => R w
  | _ => False
theorem seg_RecvBuf_Reset.RV_elim {R : World → Prop} {v : Value} {w : World} (h : seg_RecvBuf_Reset.RV R v w) : Ending.returned v = .returned (.tuple #[]) ∧ R w := by
  unfold seg_RecvBuf_Reset.RV at h
  split at h
  · exact ⟨rfl, h⟩
  · exact h.elim
/-- e2e/conn.window -/
def conn_window.Call (w0 : Int) (w : World) (R : Int → World → Prop) : Prop :=
  Calls Tryz.prog 106 #[.int .i64 w0] w fun e w' => ∃ r, e = .returned (.int .i64 r) ∧ R r w'
theorem conn_window.Call.mono {w0} {w : World} {R R' : Int → World → Prop} (h : conn_window.Call w0 w R) (hr : ∀ r w', R r w' → R' r w') : conn_window.Call w0 w R' :=
  Calls.mono h fun e w' he => by
    obtain ⟨r, h1, h2⟩ := he
    exact ⟨r, h1, hr r w' h2⟩
def conn_window.RV (R : Int → World → Prop) (v : Value) (w : World) : Prop := match v with
  | .int .i64 r => R r w
  | _ => False
theorem conn_window.RV_elim {R : Int → World → Prop} {v : Value} {w : World} (h : conn_window.RV R v w) : ∃ r, Ending.returned v = .returned (.int .i64 r) ∧ R r w := by
  unfold conn_window.RV at h
  split at h
  · exact ⟨_, rfl, h⟩
  · exact h.elim
/-- (*e2e/seg.SendBuf).Next -/
def seg_SendBuf_Next.Call (b : Option Addr) (max : Int) (w : World) (R : Int → Option Addr → Nat → Nat → World → Prop) : Prop :=
  Calls Tryz.prog 107 #[.pointer b, .int .i64 max] w fun e w' => ∃ r0 r1_b r1_l r1_c, e = .returned (.tuple #[.int .i64 r0, .slice r1_b r1_l r1_c]) ∧ R r0 r1_b r1_l r1_c w'
theorem seg_SendBuf_Next.Call.mono {b max} {w : World} {R R' : Int → Option Addr → Nat → Nat → World → Prop} (h : seg_SendBuf_Next.Call b max w R) (hr : ∀ r0 r1_b r1_l r1_c w', R r0 r1_b r1_l r1_c w' → R' r0 r1_b r1_l r1_c w') : seg_SendBuf_Next.Call b max w R' :=
  Calls.mono h fun e w' he => by
    obtain ⟨r0, r1_b, r1_l, r1_c, h1, h2⟩ := he
    exact ⟨r0, r1_b, r1_l, r1_c, h1, hr r0 r1_b r1_l r1_c w' h2⟩
def seg_SendBuf_Next.RV (R : Int → Option Addr → Nat → Nat → World → Prop) (v : Value) (w : World) : Prop := match v with
  | .tuple ⟨[.int .i64 r0, .slice r1_b r1_l r1_c]⟩ => R r0 r1_b r1_l r1_c w
  | _ => False
theorem seg_SendBuf_Next.RV_elim {R : Int → Option Addr → Nat → Nat → World → Prop} {v : Value} {w : World} (h : seg_SendBuf_Next.RV R v w) : ∃ r0 r1_b r1_l r1_c, Ending.returned v = .returned (.tuple #[.int .i64 r0, .slice r1_b r1_l r1_c]) ∧ R r0 r1_b r1_l r1_c w := by
  unfold seg_SendBuf_Next.RV at h
  split at h
  · exact ⟨_, _, _, _, rfl, h⟩
  · exact h.elim
/-- (*e2e/seg.SendBuf).Nxt -/
def seg_SendBuf_Nxt.Call (b : Option Addr) (w : World) (R : Int → World → Prop) : Prop :=
  Calls Tryz.prog 108 #[.pointer b] w fun e w' => ∃ r, e = .returned (.int .i64 r) ∧ R r w'
theorem seg_SendBuf_Nxt.Call.mono {b} {w : World} {R R' : Int → World → Prop} (h : seg_SendBuf_Nxt.Call b w R) (hr : ∀ r w', R r w' → R' r w') : seg_SendBuf_Nxt.Call b w R' :=
  Calls.mono h fun e w' he => by
    obtain ⟨r, h1, h2⟩ := he
    exact ⟨r, h1, hr r w' h2⟩
def seg_SendBuf_Nxt.RV (R : Int → World → Prop) (v : Value) (w : World) : Prop := match v with
  | .int .i64 r => R r w
  | _ => False
theorem seg_SendBuf_Nxt.RV_elim {R : Int → World → Prop} {v : Value} {w : World} (h : seg_SendBuf_Nxt.RV R v w) : ∃ r, Ending.returned v = .returned (.int .i64 r) ∧ R r w := by
  unfold seg_SendBuf_Nxt.RV at h
  split at h
  · exact ⟨_, rfl, h⟩
  · exact h.elim
/-- e2e/seg.least -/
def seg_least.Call (max have0 : Int) (w : World) (R : Int → World → Prop) : Prop :=
  Calls Tryz.prog 109 #[.int .i64 max, .int .i64 have0] w fun e w' => ∃ r, e = .returned (.int .i64 r) ∧ R r w'
theorem seg_least.Call.mono {max have0} {w : World} {R R' : Int → World → Prop} (h : seg_least.Call max have0 w R) (hr : ∀ r w', R r w' → R' r w') : seg_least.Call max have0 w R' :=
  Calls.mono h fun e w' he => by
    obtain ⟨r, h1, h2⟩ := he
    exact ⟨r, h1, hr r w' h2⟩
def seg_least.RV (R : Int → World → Prop) (v : Value) (w : World) : Prop := match v with
  | .int .i64 r => R r w
  | _ => False
theorem seg_least.RV_elim {R : Int → World → Prop} {v : Value} {w : World} (h : seg_least.RV R v w) : ∃ r, Ending.returned v = .returned (.int .i64 r) ∧ R r w := by
  unfold seg_least.RV at h
  split at h
  · exact ⟨_, rfl, h⟩
  · exact h.elim
/-- (*e2e/conn.Conn).opened -/
def conn_Conn_opened.Call (c : Option Addr) (w : World) (R : World → Prop) : Prop :=
  Calls Tryz.prog 110 #[.pointer c] w fun e w' => e = .returned (.tuple #[]) ∧ R w'
theorem conn_Conn_opened.Call.mono {c} {w : World} {R R' : World → Prop} (h : conn_Conn_opened.Call c w R) (hr : ∀ w', R w' → R'  w') : conn_Conn_opened.Call c w R' :=
  Calls.mono h fun e w' he => by
    obtain ⟨h1, h2⟩ := he
    exact ⟨h1, hr  w' h2⟩
def conn_Conn_opened.RV (R : World → Prop) (v : Value) (w : World) : Prop := match v with
  | .tuple ⟨[]⟩ => R w
  | _ => False
theorem conn_Conn_opened.RV_elim {R : World → Prop} {v : Value} {w : World} (h : conn_Conn_opened.RV R v w) : Ending.returned v = .returned (.tuple #[]) ∧ R w := by
  unfold conn_Conn_opened.RV at h
  split at h
  · exact ⟨rfl, h⟩
  · exact h.elim
/-- (*e2e/conn.Conn).acked -/
def conn_Conn_acked.Call (c : Option Addr) (s_0 s_1 s_2 s_3 s_4 s_5 : Int) (s_6_b : Option Addr) (s_6_l s_6_c : Nat) (w : World) (R : Bool → World → Prop) : Prop :=
  Calls Tryz.prog 111 #[.pointer c, .agg #[.int .i64 s_0, .int .i64 s_1, .int .i64 s_2, .int .i64 s_3, .int .i64 s_4, .int .i64 s_5, .slice s_6_b s_6_l s_6_c]] w fun e w' => ∃ r, e = .returned (.bool r) ∧ R r w'
theorem conn_Conn_acked.Call.mono {c s_0 s_1 s_2 s_3 s_4 s_5 s_6_b s_6_l s_6_c} {w : World} {R R' : Bool → World → Prop} (h : conn_Conn_acked.Call c s_0 s_1 s_2 s_3 s_4 s_5 s_6_b s_6_l s_6_c w R) (hr : ∀ r w', R r w' → R' r w') : conn_Conn_acked.Call c s_0 s_1 s_2 s_3 s_4 s_5 s_6_b s_6_l s_6_c w R' :=
  Calls.mono h fun e w' he => by
    obtain ⟨r, h1, h2⟩ := he
    exact ⟨r, h1, hr r w' h2⟩
def conn_Conn_acked.RV (R : Bool → World → Prop) (v : Value) (w : World) : Prop := match v with
  | .bool r => R r w
  | _ => False
theorem conn_Conn_acked.RV_elim {R : Bool → World → Prop} {v : Value} {w : World} (h : conn_Conn_acked.RV R v w) : ∃ r, Ending.returned v = .returned (.bool r) ∧ R r w := by
  unfold conn_Conn_acked.RV at h
  split at h
  · exact ⟨_, rfl, h⟩
  · exact h.elim
/-- (*e2e/conn.Conn).take -/
def conn_Conn_take.Call (c : Option Addr) (s_0 s_1 s_2 s_3 s_4 s_5 : Int) (s_6_b : Option Addr) (s_6_l s_6_c : Nat) (w : World) (R : World → Prop) : Prop :=
  Calls Tryz.prog 112 #[.pointer c, .agg #[.int .i64 s_0, .int .i64 s_1, .int .i64 s_2, .int .i64 s_3, .int .i64 s_4, .int .i64 s_5, .slice s_6_b s_6_l s_6_c]] w fun e w' => e = .returned (.tuple #[]) ∧ R w'
theorem conn_Conn_take.Call.mono {c s_0 s_1 s_2 s_3 s_4 s_5 s_6_b s_6_l s_6_c} {w : World} {R R' : World → Prop} (h : conn_Conn_take.Call c s_0 s_1 s_2 s_3 s_4 s_5 s_6_b s_6_l s_6_c w R) (hr : ∀ w', R w' → R'  w') : conn_Conn_take.Call c s_0 s_1 s_2 s_3 s_4 s_5 s_6_b s_6_l s_6_c w R' :=
  Calls.mono h fun e w' he => by
    obtain ⟨h1, h2⟩ := he
    exact ⟨h1, hr  w' h2⟩
def conn_Conn_take.RV (R : World → Prop) (v : Value) (w : World) : Prop := match v with
  | .tuple ⟨[]⟩ => R w
  | _ => False
theorem conn_Conn_take.RV_elim {R : World → Prop} {v : Value} {w : World} (h : conn_Conn_take.RV R v w) : Ending.returned v = .returned (.tuple #[]) ∧ R w := by
  unfold conn_Conn_take.RV at h
  split at h
  · exact ⟨rfl, h⟩
  · exact h.elim
/-- (*e2e/seg.RecvBuf).Window -/
def seg_RecvBuf_Window.Call (b : Option Addr) (w : World) (R : Int → World → Prop) : Prop :=
  Calls Tryz.prog 113 #[.pointer b] w fun e w' => ∃ r, e = .returned (.int .i64 r) ∧ R r w'
theorem seg_RecvBuf_Window.Call.mono {b} {w : World} {R R' : Int → World → Prop} (h : seg_RecvBuf_Window.Call b w R) (hr : ∀ r w', R r w' → R' r w') : seg_RecvBuf_Window.Call b w R' :=
  Calls.mono h fun e w' he => by
    obtain ⟨r, h1, h2⟩ := he
    exact ⟨r, h1, hr r w' h2⟩
def seg_RecvBuf_Window.RV (R : Int → World → Prop) (v : Value) (w : World) : Prop := match v with
  | .int .i64 r => R r w
  | _ => False
theorem seg_RecvBuf_Window.RV_elim {R : Int → World → Prop} {v : Value} {w : World} (h : seg_RecvBuf_Window.RV R v w) : ∃ r, Ending.returned v = .returned (.int .i64 r) ∧ R r w := by
  unfold seg_RecvBuf_Window.RV at h
  split at h
  · exact ⟨_, rfl, h⟩
  · exact h.elim
/-- (*e2e/seg.SendBuf).Ack -/
def seg_SendBuf_Ack.Call (b : Option Addr) (a : Int) (w : World) (R : Int → World → Prop) : Prop :=
  Calls Tryz.prog 114 #[.pointer b, .int .i64 a] w fun e w' => ∃ r, e = .returned (.int .i64 r) ∧ R r w'
theorem seg_SendBuf_Ack.Call.mono {b a} {w : World} {R R' : Int → World → Prop} (h : seg_SendBuf_Ack.Call b a w R) (hr : ∀ r w', R r w' → R' r w') : seg_SendBuf_Ack.Call b a w R' :=
  Calls.mono h fun e w' he => by
    obtain ⟨r, h1, h2⟩ := he
    exact ⟨r, h1, hr r w' h2⟩
def seg_SendBuf_Ack.RV (R : Int → World → Prop) (v : Value) (w : World) : Prop := match v with
  | .int .i64 r => R r w
  | _ => False
theorem seg_SendBuf_Ack.RV_elim {R : Int → World → Prop} {v : Value} {w : World} (h : seg_SendBuf_Ack.RV R v w) : ∃ r, Ending.returned v = .returned (.int .i64 r) ∧ R r w := by
  unfold seg_SendBuf_Ack.RV at h
  split at h
  · exact ⟨_, rfl, h⟩
  · exact h.elim
/-- (*e2e/seg.RecvBuf).Insert -/
def seg_RecvBuf_Insert.Call (b : Option Addr) (seq : Int) (p_b : Option Addr) (p_l p_c : Nat) (w : World) (R : Int → World → Prop) : Prop :=
  Calls Tryz.prog 115 #[.pointer b, .int .i64 seq, .slice p_b p_l p_c] w fun e w' => ∃ r, e = .returned (.int .i64 r) ∧ R r w'
theorem seg_RecvBuf_Insert.Call.mono {b seq p_b p_l p_c} {w : World} {R R' : Int → World → Prop} (h : seg_RecvBuf_Insert.Call b seq p_b p_l p_c w R) (hr : ∀ r w', R r w' → R' r w') : seg_RecvBuf_Insert.Call b seq p_b p_l p_c w R' :=
  Calls.mono h fun e w' he => by
    obtain ⟨r, h1, h2⟩ := he
    exact ⟨r, h1, hr r w' h2⟩
def seg_RecvBuf_Insert.RV (R : Int → World → Prop) (v : Value) (w : World) : Prop := match v with
  | .int .i64 r => R r w
  | _ => False
theorem seg_RecvBuf_Insert.RV_elim {R : Int → World → Prop} {v : Value} {w : World} (h : seg_RecvBuf_Insert.RV R v w) : ∃ r, Ending.returned v = .returned (.int .i64 r) ∧ R r w := by
  unfold seg_RecvBuf_Insert.RV at h
  split at h
  · exact ⟨_, rfl, h⟩
  · exact h.elim
end Go.Proofs.Qxb6500422aGreat
