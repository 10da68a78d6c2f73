import Derived.Test.Qxb6500424aGreatProg
import Derived.Test.Qxb6500424aGreatVcC
open Go.Vc
namespace Go.Proofs.Qxb6500424aGreat
theorem Tryz.mixed : Tryz.prog.follows .mixedOrders = true := by kernel_rfl
abbrev T_int64 : TypeId := 2
abbrev T_int : TypeId := 3
abbrev T_bool : TypeId := 4
abbrev T_uint8 : TypeId := 5
abbrev T_string : TypeId := 9
abbrev T_uintptr : TypeId := 12
abbrev T_int32 : TypeId := 21
abbrev T_api_Op : TypeId := 32
abbrev T_hostlaw_Below : TypeId := 41
abbrev T_hostlaw_World : TypeId := 53
abbrev T_api_SockEntry : TypeId := 66
abbrev T_api_SockInfo : TypeId := 69
abbrev T_api_Errno : TypeId := 70
abbrev T_hostlaw_Waiting : TypeId := 76
abbrev T_hostm_Net : TypeId := 80
abbrev T_hostm_End : TypeId := 83
abbrev T_api_ConnInfo : TypeId := 95
abbrev T_wirem_Wire : TypeId := 98
abbrev T_host_Host : TypeId := 109
abbrev T_wirem_Flight : TypeId := 129
abbrev T_uint : TypeId := 130
abbrev T_frame_Link : TypeId := 145
abbrev T_uint64 : TypeId := 146
abbrev T_ip_slot : TypeId := 149
abbrev T_ip_IP : TypeId := 152
abbrev T_sock_row : TypeId := 155
abbrev T_sock_Table : TypeId := 158
abbrev T_seg_SendBuf : TypeId := 161
abbrev T_uint16 : TypeId := 162
abbrev T_seg_RecvBuf : TypeId := 164
abbrev T_conn_Conn : TypeId := 166
abbrev T_api_Frame : TypeId := 169
abbrev T_api_Datagram : TypeId := 173
abbrev T_api_Segment : TypeId := 177
abbrev T_seg_sums : TypeId := 203
abbrev T_frame_Sum : TypeId := 221
abbrev T_uint32 : TypeId := 242
/-- e2e/hostlaw.Refines -/
def hostlaw_Refines.Call (script_b : Option Addr) (script_l script_c : Nat) (w : World) (R : Bool → World → Prop) : Prop :=
  Calls Tryz.prog 3 #[.slice script_b script_l script_c] w fun e w' => ∃ r, e = .returned (.bool r) ∧ R r w'
theorem hostlaw_Refines.Call.mono {script_b script_l script_c} {w : World} {R R' : Bool → World → Prop} (h : hostlaw_Refines.Call script_b script_l script_c w R) (hr : ∀ r w', R r w' → R' r w') : hostlaw_Refines.Call script_b script_l script_c w R' :=
  Calls.mono h fun e w' he => by
    obtain ⟨r, h1, h2⟩ := he
    exact ⟨r, h1, hr r w' h2⟩
def hostlaw_Refines.RV (R : Bool → World → Prop) (v : Value) (w : World) : Prop := match v with
  | .bool r => R r w
  | _ => False
theorem hostlaw_Refines.RV_elim {R : Bool → World → Prop} {v : Value} {w : World} (h : hostlaw_Refines.RV R v w) : ∃ r, Ending.returned v = .returned (.bool r) ∧ R r w := by
  unfold hostlaw_Refines.RV at h
  split at h
  · exact ⟨_, rfl, h⟩
  · exact h.elim
/-- e2e/hostlaw.RefinesSteady -/
def hostlaw_RefinesSteady.Call (script_b : Option Addr) (script_l script_c : Nat) (w : World) (R : Bool → World → Prop) : Prop :=
  Calls Tryz.prog 4 #[.slice script_b script_l script_c] w fun e w' => ∃ r, e = .returned (.bool r) ∧ R r w'
theorem hostlaw_RefinesSteady.Call.mono {script_b script_l script_c} {w : World} {R R' : Bool → World → Prop} (h : hostlaw_RefinesSteady.Call script_b script_l script_c w R) (hr : ∀ r w', R r w' → R' r w') : hostlaw_RefinesSteady.Call script_b script_l script_c w R' :=
  Calls.mono h fun e w' he => by
    obtain ⟨r, h1, h2⟩ := he
    exact ⟨r, h1, hr r w' h2⟩
def hostlaw_RefinesSteady.RV (R : Bool → World → Prop) (v : Value) (w : World) : Prop := match v with
  | .bool r => R r w
  | _ => False
theorem hostlaw_RefinesSteady.RV_elim {R : Bool → World → Prop} {v : Value} {w : World} (h : hostlaw_RefinesSteady.RV R v w) : ∃ r, Ending.returned v = .returned (.bool r) ∧ R r w := by
  unfold hostlaw_RefinesSteady.RV at h
  split at h
  · exact ⟨_, rfl, h⟩
  · exact h.elim
/-- e2e/hostlaw.RefinesWork -/
def hostlaw_RefinesWork.Call (script_b : Option Addr) (script_l script_c : Nat) (w : World) (R : Bool → World → Prop) : Prop :=
  Calls Tryz.prog 5 #[.slice script_b script_l script_c] w fun e w' => ∃ r, e = .returned (.bool r) ∧ R r w'
theorem hostlaw_RefinesWork.Call.mono {script_b script_l script_c} {w : World} {R R' : Bool → World → Prop} (h : hostlaw_RefinesWork.Call script_b script_l script_c w R) (hr : ∀ r w', R r w' → R' r w') : hostlaw_RefinesWork.Call script_b script_l script_c w R' :=
  Calls.mono h fun e w' he => by
    obtain ⟨r, h1, h2⟩ := he
    exact ⟨r, h1, hr r w' h2⟩
def hostlaw_RefinesWork.RV (R : Bool → World → Prop) (v : Value) (w : World) : Prop := match v with
  | .bool r => R r w
  | _ => False
theorem hostlaw_RefinesWork.RV_elim {R : Bool → World → Prop} {v : Value} {w : World} (h : hostlaw_RefinesWork.RV R v w) : ∃ r, Ending.returned v = .returned (.bool r) ∧ R r w := by
  unfold hostlaw_RefinesWork.RV at h
  split at h
  · exact ⟨_, rfl, h⟩
  · exact h.elim
/-- e2e/hostlaw.RefinesFair -/
def hostlaw_RefinesFair.Call (script_b : Option Addr) (script_l script_c : Nat) (w : World) (R : Bool → World → Prop) : Prop :=
  Calls Tryz.prog 6 #[.slice script_b script_l script_c] w fun e w' => ∃ r, e = .returned (.bool r) ∧ R r w'
theorem hostlaw_RefinesFair.Call.mono {script_b script_l script_c} {w : World} {R R' : Bool → World → Prop} (h : hostlaw_RefinesFair.Call script_b script_l script_c w R) (hr : ∀ r w', R r w' → R' r w') : hostlaw_RefinesFair.Call script_b script_l script_c w R' :=
  Calls.mono h fun e w' he => by
    obtain ⟨r, h1, h2⟩ := he
    exact ⟨r, h1, hr r w' h2⟩
def hostlaw_RefinesFair.RV (R : Bool → World → Prop) (v : Value) (w : World) : Prop := match v with
  | .bool r => R r w
  | _ => False
theorem hostlaw_RefinesFair.RV_elim {R : Bool → World → Prop} {v : Value} {w : World} (h : hostlaw_RefinesFair.RV R v w) : ∃ r, Ending.returned v = .returned (.bool r) ∧ R r w := by
  unfold hostlaw_RefinesFair.RV at h
  split at h
  · exact ⟨_, rfl, h⟩
  · exact h.elim
/-- e2e/hostlaw.RefinesQuiet -/
def hostlaw_RefinesQuiet.Call (script_b : Option Addr) (script_l script_c : Nat) (w : World) (R : Bool → World → Prop) : Prop :=
  Calls Tryz.prog 7 #[.slice script_b script_l script_c] w fun e w' => ∃ r, e = .returned (.bool r) ∧ R r w'
theorem hostlaw_RefinesQuiet.Call.mono {script_b script_l script_c} {w : World} {R R' : Bool → World → Prop} (h : hostlaw_RefinesQuiet.Call script_b script_l script_c w R) (hr : ∀ r w', R r w' → R' r w') : hostlaw_RefinesQuiet.Call script_b script_l script_c w R' :=
  Calls.mono h fun e w' he => by
    obtain ⟨r, h1, h2⟩ := he
    exact ⟨r, h1, hr r w' h2⟩
def hostlaw_RefinesQuiet.RV (R : Bool → World → Prop) (v : Value) (w : World) : Prop := match v with
  | .bool r => R r w
  | _ => False
theorem hostlaw_RefinesQuiet.RV_elim {R : Bool → World → Prop} {v : Value} {w : World} (h : hostlaw_RefinesQuiet.RV R v w) : ∃ r, Ending.returned v = .returned (.bool r) ∧ R r w := by
  unfold hostlaw_RefinesQuiet.RV at h
  split at h
  · exact ⟨_, rfl, h⟩
  · exact h.elim
/-- e2e/hostlaw.RefinesUpTo -/
def hostlaw_RefinesUpTo.Call (script_b : Option Addr) (script_l script_c : Nat) (w : World) (R : Int → World → Prop) : Prop :=
  Calls Tryz.prog 8 #[.slice script_b script_l script_c] w fun e w' => ∃ r, e = .returned (.int .i64 r) ∧ R r w'
theorem hostlaw_RefinesUpTo.Call.mono {script_b script_l script_c} {w : World} {R R' : Int → World → Prop} (h : hostlaw_RefinesUpTo.Call script_b script_l script_c w R) (hr : ∀ r w', R r w' → R' r w') : hostlaw_RefinesUpTo.Call script_b script_l script_c w R' :=
  Calls.mono h fun e w' he => by
    obtain ⟨r, h1, h2⟩ := he
    exact ⟨r, h1, hr r w' h2⟩
def hostlaw_RefinesUpTo.RV (R : Int → World → Prop) (v : Value) (w : World) : Prop := match v with
  | .int .i64 r => R r w
  | _ => False
theorem hostlaw_RefinesUpTo.RV_elim {R : Int → World → Prop} {v : Value} {w : World} (h : hostlaw_RefinesUpTo.RV R v w) : ∃ r, Ending.returned v = .returned (.int .i64 r) ∧ R r w := by
  unfold hostlaw_RefinesUpTo.RV at h
  split at h
  · exact ⟨_, rfl, h⟩
  · exact h.elim
/-- e2e/hostlaw.walk -/
def hostlaw_walk.Call (script_b : Option Addr) (script_l script_c : Nat) (steady quiet : Bool) (w : World) (R : Int → Int → World → Prop) : Prop :=
  Calls Tryz.prog 9 #[.slice script_b script_l script_c, .bool steady, .bool quiet] w fun e w' => ∃ r0 r1, e = .returned (.tuple #[.int .i64 r0, .int .i64 r1]) ∧ R r0 r1 w'
theorem hostlaw_walk.Call.mono {script_b script_l script_c steady quiet} {w : World} {R R' : Int → Int → World → Prop} (h : hostlaw_walk.Call script_b script_l script_c steady quiet w R) (hr : ∀ r0 r1 w', R r0 r1 w' → R' r0 r1 w') : hostlaw_walk.Call script_b script_l script_c steady quiet w R' :=
  Calls.mono h fun e w' he => by
    obtain ⟨r0, r1, h1, h2⟩ := he
    exact ⟨r0, r1, h1, hr r0 r1 w' h2⟩
def hostlaw_walk.RV (R : Int → Int → World → Prop) (v : Value) (w : World) : Prop := match v with
  | .tuple ⟨[.int .i64 r0, .int .i64 r1]⟩ => R r0 r1 w
  | _ => False
theorem hostlaw_walk.RV_elim {R : Int → Int → World → Prop} {v : Value} {w : World} (h : hostlaw_walk.RV R v w) : ∃ r0 r1, Ending.returned v = .returned (.tuple #[.int .i64 r0, .int .i64 r1]) ∧ R r0 r1 w := by
  unfold hostlaw_walk.RV at h
  split at h
  · exact ⟨_, _, rfl, h⟩
  · exact h.elim
/-- e2e/hostlaw.RefinesWorkUpTo -/
def hostlaw_RefinesWorkUpTo.Call (script_b : Option Addr) (script_l script_c : Nat) (w : World) (R : Int → World → Prop) : Prop :=
  Calls Tryz.prog 10 #[.slice script_b script_l script_c] w fun e w' => ∃ r, e = .returned (.int .i64 r) ∧ R r w'
theorem hostlaw_RefinesWorkUpTo.Call.mono {script_b script_l script_c} {w : World} {R R' : Int → World → Prop} (h : hostlaw_RefinesWorkUpTo.Call script_b script_l script_c w R) (hr : ∀ r w', R r w' → R' r w') : hostlaw_RefinesWorkUpTo.Call script_b script_l script_c w R' :=
  Calls.mono h fun e w' he => by
    obtain ⟨r, h1, h2⟩ := he
    exact ⟨r, h1, hr r w' h2⟩
def hostlaw_RefinesWorkUpTo.RV (R : Int → World → Prop) (v : Value) (w : World) : Prop := match v with
  | .int .i64 r => R r w
  | _ => False
theorem hostlaw_RefinesWorkUpTo.RV_elim {R : Int → World → Prop} {v : Value} {w : World} (h : hostlaw_RefinesWorkUpTo.RV R v w) : ∃ r, Ending.returned v = .returned (.int .i64 r) ∧ R r w := by
  unfold hostlaw_RefinesWorkUpTo.RV at h
  split at h
  · exact ⟨_, rfl, h⟩
  · exact h.elim
/-- e2e/hostlaw.RefinesFairUpTo -/
def hostlaw_RefinesFairUpTo.Call (script_b : Option Addr) (script_l script_c : Nat) (w : World) (R : Int → World → Prop) : Prop :=
  Calls Tryz.prog 11 #[.slice script_b script_l script_c] w fun e w' => ∃ r, e = .returned (.int .i64 r) ∧ R r w'
theorem hostlaw_RefinesFairUpTo.Call.mono {script_b script_l script_c} {w : World} {R R' : Int → World → Prop} (h : hostlaw_RefinesFairUpTo.Call script_b script_l script_c w R) (hr : ∀ r w', R r w' → R' r w') : hostlaw_RefinesFairUpTo.Call script_b script_l script_c w R' :=
  Calls.mono h fun e w' he => by
    obtain ⟨r, h1, h2⟩ := he
    exact ⟨r, h1, hr r w' h2⟩
def hostlaw_RefinesFairUpTo.RV (R : Int → World → Prop) (v : Value) (w : World) : Prop := match v with
  | .int .i64 r => R r w
  | _ => False
theorem hostlaw_RefinesFairUpTo.RV_elim {R : Int → World → Prop} {v : Value} {w : World} (h : hostlaw_RefinesFairUpTo.RV R v w) : ∃ r, Ending.returned v = .returned (.int .i64 r) ∧ R r w := by
  unfold hostlaw_RefinesFairUpTo.RV at h
  split at h
  · exact ⟨_, rfl, h⟩
  · exact h.elim
/-- e2e/hostlaw.RefinesQuietUpTo -/
def hostlaw_RefinesQuietUpTo.Call (script_b : Option Addr) (script_l script_c : Nat) (w : World) (R : Int → World → Prop) : Prop :=
  Calls Tryz.prog 12 #[.slice script_b script_l script_c] w fun e w' => ∃ r, e = .returned (.int .i64 r) ∧ R r w'
theorem hostlaw_RefinesQuietUpTo.Call.mono {script_b script_l script_c} {w : World} {R R' : Int → World → Prop} (h : hostlaw_RefinesQuietUpTo.Call script_b script_l script_c w R) (hr : ∀ r w', R r w' → R' r w') : hostlaw_RefinesQuietUpTo.Call script_b script_l script_c w R' :=
  Calls.mono h fun e w' he => by
    obtain ⟨r, h1, h2⟩ := he
    exact ⟨r, h1, hr r w' h2⟩
def hostlaw_RefinesQuietUpTo.RV (R : Int → World → Prop) (v : Value) (w : World) : Prop := match v with
  | .int .i64 r => R r w
  | _ => False
theorem hostlaw_RefinesQuietUpTo.RV_elim {R : Int → World → Prop} {v : Value} {w : World} (h : hostlaw_RefinesQuietUpTo.RV R v w) : ∃ r, Ending.returned v = .returned (.int .i64 r) ∧ R r w := by
  unfold hostlaw_RefinesQuietUpTo.RV at h
  split at h
  · exact ⟨_, rfl, h⟩
  · exact h.elim
/-- e2e/hostlaw.NewWorld -/
def hostlaw_NewWorld.Call (quiet : Bool) (w : World) (R : Option Addr → World → Prop) : Prop :=
  Calls Tryz.prog 13 #[.bool quiet] w fun e w' => ∃ r, e = .returned (.pointer r) ∧ R r w'
theorem hostlaw_NewWorld.Call.mono {quiet} {w : World} {R R' : Option Addr → World → Prop} (h : hostlaw_NewWorld.Call quiet w R) (hr : ∀ r w', R r w' → R' r w') : hostlaw_NewWorld.Call quiet w R' :=
  Calls.mono h fun e w' he => by
    obtain ⟨r, h1, h2⟩ := he
    exact ⟨r, h1, hr r w' h2⟩
def hostlaw_NewWorld.RV (R : Option Addr → World → Prop) (v : Value) (w : World) : Prop := match v with
  | .pointer r => R r w
  | _ => False
theorem hostlaw_NewWorld.RV_elim {R : Option Addr → World → Prop} {v : Value} {w : World} (h : hostlaw_NewWorld.RV R v w) : ∃ r, Ending.returned v = .returned (.pointer r) ∧ R r w := by
  unfold hostlaw_NewWorld.RV at h
  split at h
  · exact ⟨_, rfl, h⟩
  · exact h.elim
/-- (*e2e/hostlaw.World).Look -/
def hostlaw_World_Look.Call (w0 : Option Addr) (w : World) (R : Bool → World → Prop) : Prop :=
  Calls Tryz.prog 14 #[.pointer w0] w fun e w' => ∃ r, e = .returned (.bool r) ∧ R r w'
theorem hostlaw_World_Look.Call.mono {w0} {w : World} {R R' : Bool → World → Prop} (h : hostlaw_World_Look.Call w0 w R) (hr : ∀ r w', R r w' → R' r w') : hostlaw_World_Look.Call w0 w R' :=
  Calls.mono h fun e w' he => by
    obtain ⟨r, h1, h2⟩ := he
    exact ⟨r, h1, hr r w' h2⟩
def hostlaw_World_Look.RV (R : Bool → World → Prop) (v : Value) (w : World) : Prop := match v with
  | .bool r => R r w
  | _ => False
theorem hostlaw_World_Look.RV_elim {R : Bool → World → Prop} {v : Value} {w : World} (h : hostlaw_World_Look.RV R v w) : ∃ r, Ending.returned v = .returned (.bool r) ∧ R r w := by
  unfold hostlaw_World_Look.RV at h
  split at h
  · exact ⟨_, rfl, h⟩
  · exact h.elim
/-- (*e2e/hostlaw.World).Step -/
def hostlaw_World_Step.Call (w0 : Option Addr) (o_0 o_1 o_2 o_3 : Int) (o_4 o_5 : ByteArray) (steady : Bool) (w : World) (R : Bool → World → Prop) : Prop :=
  Calls Tryz.prog 15 #[.pointer w0, .agg #[.int .i64 o_0, .int .i64 o_1, .int .i64 o_2, .int .i64 o_3, .string o_4, .string o_5], .bool steady] w fun e w' => ∃ r, e = .returned (.bool r) ∧ R r w'
theorem hostlaw_World_Step.Call.mono {w0 o_0 o_1 o_2 o_3 o_4 o_5 steady} {w : World} {R R' : Bool → World → Prop} (h : hostlaw_World_Step.Call w0 o_0 o_1 o_2 o_3 o_4 o_5 steady w R) (hr : ∀ r w', R r w' → R' r w') : hostlaw_World_Step.Call w0 o_0 o_1 o_2 o_3 o_4 o_5 steady w R' :=
  Calls.mono h fun e w' he => by
    obtain ⟨r, h1, h2⟩ := he
    exact ⟨r, h1, hr r w' h2⟩
def hostlaw_World_Step.RV (R : Bool → World → Prop) (v : Value) (w : World) : Prop := match v with
  | .bool r => R r w
  | _ => False
theorem hostlaw_World_Step.RV_elim {R : Bool → World → Prop} {v : Value} {w : World} (h : hostlaw_World_Step.RV R v w) : ∃ r, Ending.returned v = .returned (.bool r) ∧ R r w := by
  unfold hostlaw_World_Step.RV at h
  split at h
  · exact ⟨_, rfl, h⟩
  · exact h.elim
/-- (*e2e/hostlaw.World).Untouched -/
def hostlaw_World_Untouched.Call (w0 : Option Addr) (w : World) (R : Bool → World → Prop) : Prop :=
  Calls Tryz.prog 16 #[.pointer w0] w fun e w' => ∃ r, e = .returned (.bool r) ∧ R r w'
theorem hostlaw_World_Untouched.Call.mono {w0} {w : World} {R R' : Bool → World → Prop} (h : hostlaw_World_Untouched.Call w0 w R) (hr : ∀ r w', R r w' → R' r w') : hostlaw_World_Untouched.Call w0 w R' :=
  Calls.mono h fun e w' he => by
    obtain ⟨r, h1, h2⟩ := he
    exact ⟨r, h1, hr r w' h2⟩
def hostlaw_World_Untouched.RV (R : Bool → World → Prop) (v : Value) (w : World) : Prop := match v with
  | .bool r => R r w
  | _ => False
theorem hostlaw_World_Untouched.RV_elim {R : Bool → World → Prop} {v : Value} {w : World} (h : hostlaw_World_Untouched.RV R v w) : ∃ r, Ending.returned v = .returned (.bool r) ∧ R r w := by
  unfold hostlaw_World_Untouched.RV at h
  split at h
  · exact ⟨_, rfl, h⟩
  · exact h.elim
/-- (*e2e/hostm.Net).Settled -/
def hostm_Net_Settled.Call (n : Option Addr) (w : World) (R : Bool → World → Prop) : Prop :=
  Calls Tryz.prog 17 #[.pointer n] w fun e w' => ∃ r, e = .returned (.bool r) ∧ R r w'
theorem hostm_Net_Settled.Call.mono {n} {w : World} {R R' : Bool → World → Prop} (h : hostm_Net_Settled.Call n w R) (hr : ∀ r w', R r w' → R' r w') : hostm_Net_Settled.Call n w R' :=
  Calls.mono h fun e w' he => by
    obtain ⟨r, h1, h2⟩ := he
    exact ⟨r, h1, hr r w' h2⟩
def hostm_Net_Settled.RV (R : Bool → World → Prop) (v : Value) (w : World) : Prop := match v with
  | .bool r => R r w
  | _ => False
theorem hostm_Net_Settled.RV_elim {R : Bool → World → Prop} {v : Value} {w : World} (h : hostm_Net_Settled.RV R v w) : ∃ r, Ending.returned v = .returned (.bool r) ∧ R r w := by
  unfold hostm_Net_Settled.RV at h
  split at h
  · exact ⟨_, rfl, h⟩
  · exact h.elim
/-- (*e2e/hostlaw.World).Foul -/
def hostlaw_World_Foul.Call (w0 : Option Addr) (o_0 o_1 o_2 o_3 : Int) (o_4 o_5 : ByteArray) (w : World) (R : Bool → World → Prop) : Prop :=
  Calls Tryz.prog 18 #[.pointer w0, .agg #[.int .i64 o_0, .int .i64 o_1, .int .i64 o_2, .int .i64 o_3, .string o_4, .string o_5]] w fun e w' => ∃ r, e = .returned (.bool r) ∧ R r w'
theorem hostlaw_World_Foul.Call.mono {w0 o_0 o_1 o_2 o_3 o_4 o_5} {w : World} {R R' : Bool → World → Prop} (h : hostlaw_World_Foul.Call w0 o_0 o_1 o_2 o_3 o_4 o_5 w R) (hr : ∀ r w', R r w' → R' r w') : hostlaw_World_Foul.Call w0 o_0 o_1 o_2 o_3 o_4 o_5 w R' :=
  Calls.mono h fun e w' he => by
    obtain ⟨r, h1, h2⟩ := he
    exact ⟨r, h1, hr r w' h2⟩
def hostlaw_World_Foul.RV (R : Bool → World → Prop) (v : Value) (w : World) : Prop := match v with
  | .bool r => R r w
  | _ => False
theorem hostlaw_World_Foul.RV_elim {R : Bool → World → Prop} {v : Value} {w : World} (h : hostlaw_World_Foul.RV R v w) : ∃ r, Ending.returned v = .returned (.bool r) ∧ R r w := by
  unfold hostlaw_World_Foul.RV at h
  split at h
  · exact ⟨_, rfl, h⟩
  · exact h.elim
/-- (*e2e/hostm.Net).NoneFailed -/
def hostm_Net_NoneFailed.Call (n : Option Addr) (w : World) (R : Bool → World → Prop) : Prop :=
  Calls Tryz.prog 19 #[.pointer n] w fun e w' => ∃ r, e = .returned (.bool r) ∧ R r w'
theorem hostm_Net_NoneFailed.Call.mono {n} {w : World} {R R' : Bool → World → Prop} (h : hostm_Net_NoneFailed.Call n w R) (hr : ∀ r w', R r w' → R' r w') : hostm_Net_NoneFailed.Call n w R' :=
  Calls.mono h fun e w' he => by
    obtain ⟨r, h1, h2⟩ := he
    exact ⟨r, h1, hr r w' h2⟩
def hostm_Net_NoneFailed.RV (R : Bool → World → Prop) (v : Value) (w : World) : Prop := match v with
  | .bool r => R r w
  | _ => False
theorem hostm_Net_NoneFailed.RV_elim {R : Bool → World → Prop} {v : Value} {w : World} (h : hostm_Net_NoneFailed.RV R v w) : ∃ r, Ending.returned v = .returned (.bool r) ∧ R r w := by
  unfold hostm_Net_NoneFailed.RV at h
  split at h
  · exact ⟨_, rfl, h⟩
  · exact h.elim
/-- e2e/wirem.New -/
def wirem_New.Call  (w : World) (R : Option Addr → World → Prop) : Prop :=
  Calls Tryz.prog 20 #[] w fun e w' => ∃ r, e = .returned (.pointer r) ∧ R r w'
theorem wirem_New.Call.mono {w : World} {R R' : Option Addr → World → Prop} (h : wirem_New.Call w R) (hr : ∀ r w', R r w' → R' r w') : wirem_New.Call w R' :=
  Calls.mono h fun e w' he => by
    obtain ⟨r, h1, h2⟩ := he
    exact ⟨r, h1, hr r w' h2⟩
def wirem_New.RV (R : Option Addr → World → Prop) (v : Value) (w : World) : Prop := match v with
  | .pointer r => R r w
  | _ => False
theorem wirem_New.RV_elim {R : Option Addr → World → Prop} {v : Value} {w : World} (h : wirem_New.RV R v w) : ∃ r, Ending.returned v = .returned (.pointer r) ∧ R r w := by
  unfold wirem_New.RV at h
  split at h
  · exact ⟨_, rfl, h⟩
  · exact h.elim
/-- e2e/hostm.New -/
def hostm_New.Call  (w : World) (R : Option Addr → World → Prop) : Prop :=
  Calls Tryz.prog 21 #[] w fun e w' => ∃ r, e = .returned (.pointer r) ∧ R r w'
theorem hostm_New.Call.mono {w : World} {R R' : Option Addr → World → Prop} (h : hostm_New.Call w R) (hr : ∀ r w', R r w' → R' r w') : hostm_New.Call w R' :=
  Calls.mono h fun e w' he => by
    obtain ⟨r, h1, h2⟩ := he
    exact ⟨r, h1, hr r w' h2⟩
def hostm_New.RV (R : Option Addr → World → Prop) (v : Value) (w : World) : Prop := match v with
  | .pointer r => R r w
  | _ => False
theorem hostm_New.RV_elim {R : Option Addr → World → Prop} {v : Value} {w : World} (h : hostm_New.RV R v w) : ∃ r, Ending.returned v = .returned (.pointer r) ∧ R r w := by
  unfold hostm_New.RV at h
  split at h
  · exact ⟨_, rfl, h⟩
  · exact h.elim
/-- e2e/hostlaw.Ground -/
def hostlaw_Ground.Call (addr : Int) (w : World) (R : Option Addr → Option Addr → Option Addr → Option Addr → Option Addr → Option Addr → Option Addr → World → Prop) : Prop :=
  Calls Tryz.prog 22 #[.int .i64 addr] w fun e w' => ∃ r_0 r_1 r_2 r_3 r_4 r_5 r_6, e = .returned (.agg #[.pointer r_0, .pointer r_1, .pointer r_2, .pointer r_3, .pointer r_4, .pointer r_5, .pointer r_6]) ∧ R r_0 r_1 r_2 r_3 r_4 r_5 r_6 w'
theorem hostlaw_Ground.Call.mono {addr} {w : World} {R R' : Option Addr → Option Addr → Option Addr → Option Addr → Option Addr → Option Addr → Option Addr → World → Prop} (h : hostlaw_Ground.Call addr w R) (hr : ∀ r_0 r_1 r_2 r_3 r_4 r_5 r_6 w', R r_0 r_1 r_2 r_3 r_4 r_5 r_6 w' → R' r_0 r_1 r_2 r_3 r_4 r_5 r_6 w') : hostlaw_Ground.Call addr w R' :=
  Calls.mono h fun e w' he => by
    obtain ⟨r_0, r_1, r_2, r_3, r_4, r_5, r_6, h1, h2⟩ := he
    exact ⟨r_0, r_1, r_2, r_3, r_4, r_5, r_6, h1, hr r_0 r_1 r_2 r_3 r_4 r_5 r_6 w' h2⟩
def hostlaw_Ground.RV (R : Option Addr → Option Addr → Option Addr → Option Addr → Option Addr → Option Addr → Option Addr → World → Prop) (v : Value) (w : World) : Prop := match v with
  | .agg ⟨[.pointer r_0, .pointer r_1, .pointer r_2, .pointer r_3, .pointer r_4, .pointer r_5, .pointer r_6]⟩ => R r_0 r_1 r_2 r_3 r_4 r_5 r_6 w
  | _ => False
theorem hostlaw_Ground.RV_elim {R : Option Addr → Option Addr → Option Addr → Option Addr → Option Addr → Option Addr → Option Addr → World → Prop} {v : Value} {w : World} (h : hostlaw_Ground.RV R v w) : ∃ r_0 r_1 r_2 r_3 r_4 r_5 r_6, Ending.returned v = .returned (.agg #[.pointer r_0, .pointer r_1, .pointer r_2, .pointer r_3, .pointer r_4, .pointer r_5, .pointer r_6]) ∧ R r_0 r_1 r_2 r_3 r_4 r_5 r_6 w := by
  unfold hostlaw_Ground.RV at h
  split at h
  · exact ⟨_, _, _, _, _, _, _, rfl, h⟩
  · exact h.elim
/-- e2e/host.New -/
def host_New.Call (addr : Int) (l p c_0 c_1 c_2 c_3 t : Option Addr) (w : World) (R : Option Addr → World → Prop) : Prop :=
  Calls Tryz.prog 23 #[.int .i64 addr, .pointer l, .pointer p, .agg #[.pointer c_0, .pointer c_1, .pointer c_2, .pointer c_3], .pointer t] w fun e w' => ∃ r, e = .returned (.pointer r) ∧ R r w'
theorem host_New.Call.mono {addr l p c_0 c_1 c_2 c_3 t} {w : World} {R R' : Option Addr → World → Prop} (h : host_New.Call addr l p c_0 c_1 c_2 c_3 t w R) (hr : ∀ r w', R r w' → R' r w') : host_New.Call addr l p c_0 c_1 c_2 c_3 t w R' :=
  Calls.mono h fun e w' he => by
    obtain ⟨r, h1, h2⟩ := he
    exact ⟨r, h1, hr r w' h2⟩
def host_New.RV (R : Option Addr → World → Prop) (v : Value) (w : World) : Prop := match v with
  | .pointer r => R r w
  | _ => False
theorem host_New.RV_elim {R : Option Addr → World → Prop} {v : Value} {w : World} (h : host_New.RV R v w) : ∃ r, Ending.returned v = .returned (.pointer r) ∧ R r w := by
  unfold host_New.RV at h
  split at h
  · exact ⟨_, rfl, h⟩
  · exact h.elim
/-- e2e/hostlaw.Build -/
def hostlaw_Build.Call (a : Int) (w : World) (R : Option Addr → World → Prop) : Prop :=
  Calls Tryz.prog 24 #[.int .i64 a] w fun e w' => ∃ r, e = .returned (.pointer r) ∧ R r w'
theorem hostlaw_Build.Call.mono {a} {w : World} {R R' : Option Addr → World → Prop} (h : hostlaw_Build.Call a w R) (hr : ∀ r w', R r w' → R' r w') : hostlaw_Build.Call a w R' :=
  Calls.mono h fun e w' he => by
    obtain ⟨r, h1, h2⟩ := he
    exact ⟨r, h1, hr r w' h2⟩
def hostlaw_Build.RV (R : Option Addr → World → Prop) (v : Value) (w : World) : Prop := match v with
  | .pointer r => R r w
  | _ => False
theorem hostlaw_Build.RV_elim {R : Option Addr → World → Prop} {v : Value} {w : World} (h : hostlaw_Build.RV R v w) : ∃ r, Ending.returned v = .returned (.pointer r) ∧ R r w := by
  unfold hostlaw_Build.RV at h
  split at h
  · exact ⟨_, rfl, h⟩
  · exact h.elim
/-- (*e2e/host.Host).Check -/
def host_Host_Check.Call (h0 : Option Addr) (w : World) (R : Bool → World → Prop) : Prop :=
  Calls Tryz.prog 25 #[.pointer h0] w fun e w' => ∃ r, e = .returned (.bool r) ∧ R r w'
theorem host_Host_Check.Call.mono {h0} {w : World} {R R' : Bool → World → Prop} (h : host_Host_Check.Call h0 w R) (hr : ∀ r w', R r w' → R' r w') : host_Host_Check.Call h0 w R' :=
  Calls.mono h fun e w' he => by
    obtain ⟨r, h1, h2⟩ := he
    exact ⟨r, h1, hr r w' h2⟩
def host_Host_Check.RV (R : Bool → World → Prop) (v : Value) (w : World) : Prop := match v with
  | .bool r => R r w
  | _ => False
theorem host_Host_Check.RV_elim {R : Bool → World → Prop} {v : Value} {w : World} (h : host_Host_Check.RV R v w) : ∃ r, Ending.returned v = .returned (.bool r) ∧ R r w := by
  unfold host_Host_Check.RV at h
  split at h
  · exact ⟨_, rfl, h⟩
  · exact h.elim
/-- (*e2e/host.Host).Clock -/
def host_Host_Clock.Call (h0 : Option Addr) (w : World) (R : Int → World → Prop) : Prop :=
  Calls Tryz.prog 26 #[.pointer h0] w fun e w' => ∃ r, e = .returned (.int .i64 r) ∧ R r w'
theorem host_Host_Clock.Call.mono {h0} {w : World} {R R' : Int → World → Prop} (h : host_Host_Clock.Call h0 w R) (hr : ∀ r w', R r w' → R' r w') : host_Host_Clock.Call h0 w R' :=
  Calls.mono h fun e w' he => by
    obtain ⟨r, h1, h2⟩ := he
    exact ⟨r, h1, hr r w' h2⟩
def host_Host_Clock.RV (R : Int → World → Prop) (v : Value) (w : World) : Prop := match v with
  | .int .i64 r => R r w
  | _ => False
theorem host_Host_Clock.RV_elim {R : Int → World → Prop} {v : Value} {w : World} (h : host_Host_Clock.RV R v w) : ∃ r, Ending.returned v = .returned (.int .i64 r) ∧ R r w := by
  unfold host_Host_Clock.RV at h
  split at h
  · exact ⟨_, rfl, h⟩
  · exact h.elim
/-- (*e2e/host.Host).Lost -/
def host_Host_Lost.Call (h0 : Option Addr) (w : World) (R : Int → World → Prop) : Prop :=
  Calls Tryz.prog 27 #[.pointer h0] w fun e w' => ∃ r, e = .returned (.int .i64 r) ∧ R r w'
theorem host_Host_Lost.Call.mono {h0} {w : World} {R R' : Int → World → Prop} (h : host_Host_Lost.Call h0 w R) (hr : ∀ r w', R r w' → R' r w') : host_Host_Lost.Call h0 w R' :=
  Calls.mono h fun e w' he => by
    obtain ⟨r, h1, h2⟩ := he
    exact ⟨r, h1, hr r w' h2⟩
def host_Host_Lost.RV (R : Int → World → Prop) (v : Value) (w : World) : Prop := match v with
  | .int .i64 r => R r w
  | _ => False
theorem host_Host_Lost.RV_elim {R : Int → World → Prop} {v : Value} {w : World} (h : host_Host_Lost.RV R v w) : ∃ r, Ending.returned v = .returned (.int .i64 r) ∧ R r w := by
  unfold host_Host_Lost.RV at h
  split at h
  · exact ⟨_, rfl, h⟩
  · exact h.elim
/-- (*e2e/host.Host).Socks -/
def host_Host_Socks.Call (h0 : Option Addr) (w : World) (R : Option Addr → Nat → Nat → World → Prop) : Prop :=
  Calls Tryz.prog 28 #[.pointer h0] w fun e w' => ∃ r_b r_l r_c, e = .returned (.slice r_b r_l r_c) ∧ R r_b r_l r_c w'
theorem host_Host_Socks.Call.mono {h0} {w : World} {R R' : Option Addr → Nat → Nat → World → Prop} (h : host_Host_Socks.Call h0 w R) (hr : ∀ r_b r_l r_c w', R r_b r_l r_c w' → R' r_b r_l r_c w') : host_Host_Socks.Call h0 w R' :=
  Calls.mono h fun e w' he => by
    obtain ⟨r_b, r_l, r_c, h1, h2⟩ := he
    exact ⟨r_b, r_l, r_c, h1, hr r_b r_l r_c w' h2⟩
def host_Host_Socks.RV (R : Option Addr → Nat → Nat → World → Prop) (v : Value) (w : World) : Prop := match v with
  | .slice r_b r_l r_c => R r_b r_l r_c w
  | _ => False
theorem host_Host_Socks.RV_elim {R : Option Addr → Nat → Nat → World → Prop} {v : Value} {w : World} (h : host_Host_Socks.RV R v w) : ∃ r_b r_l r_c, Ending.returned v = .returned (.slice r_b r_l r_c) ∧ R r_b r_l r_c w := by
  unfold host_Host_Socks.RV at h
  split at h
  · exact ⟨_, _, _, rfl, h⟩
  · exact h.elim
/-- e2e/hostlaw.CopyInts -/
def hostlaw_CopyInts.Call (l_b : Option Addr) (l_l l_c : Nat) (w : World) (R : Option Addr → Nat → Nat → World → Prop) : Prop :=
  Calls Tryz.prog 29 #[.slice l_b l_l l_c] w fun e w' => ∃ r_b r_l r_c, e = .returned (.slice r_b r_l r_c) ∧ R r_b r_l r_c w'
theorem hostlaw_CopyInts.Call.mono {l_b l_l l_c} {w : World} {R R' : Option Addr → Nat → Nat → World → Prop} (h : hostlaw_CopyInts.Call l_b l_l l_c w R) (hr : ∀ r_b r_l r_c w', R r_b r_l r_c w' → R' r_b r_l r_c w') : hostlaw_CopyInts.Call l_b l_l l_c w R' :=
  Calls.mono h fun e w' he => by
    obtain ⟨r_b, r_l, r_c, h1, h2⟩ := he
    exact ⟨r_b, r_l, r_c, h1, hr r_b r_l r_c w' h2⟩
def hostlaw_CopyInts.RV (R : Option Addr → Nat → Nat → World → Prop) (v : Value) (w : World) : Prop := match v with
  | .slice r_b r_l r_c => R r_b r_l r_c w
  | _ => False
theorem hostlaw_CopyInts.RV_elim {R : Option Addr → Nat → Nat → World → Prop} {v : Value} {w : World} (h : hostlaw_CopyInts.RV R v w) : ∃ r_b r_l r_c, Ending.returned v = .returned (.slice r_b r_l r_c) ∧ R r_b r_l r_c w := by
  unfold hostlaw_CopyInts.RV at h
  split at h
  · exact ⟨_, _, _, rfl, h⟩
  · exact h.elim
/-- (*e2e/hostlaw.World).OwnInts -/
def hostlaw_World_OwnInts.Call (w0 l_b : Option Addr) (l_l l_c : Nat) (w : World) (R : World → Prop) : Prop :=
  Calls Tryz.prog 30 #[.pointer w0, .slice l_b l_l l_c] w fun e w' => e = .returned (.tuple #[]) ∧ R w'
theorem hostlaw_World_OwnInts.Call.mono {w0 l_b l_l l_c} {w : World} {R R' : World → Prop} (h : hostlaw_World_OwnInts.Call w0 l_b l_l l_c w R) (hr : ∀ w', R w' → R'  w') : hostlaw_World_OwnInts.Call w0 l_b l_l l_c w R' :=
  Calls.mono h fun e w' he => by
    obtain ⟨h1, h2⟩ := he
    exact ⟨h1, hr  w' h2⟩
def hostlaw_World_OwnInts.RV (R : World → Prop) (v : Value) (w : World) : Prop := match v with
  | .tuple ⟨[]⟩ => R w
  | _ => False
theorem hostlaw_World_OwnInts.RV_elim {R : World → Prop} {v : Value} {w : World} (h : hostlaw_World_OwnInts.RV R v w) : Ending.returned v = .returned (.tuple #[]) ∧ R w := by
  unfold hostlaw_World_OwnInts.RV at h
  split at h
  · exact ⟨rfl, h⟩
  · exact h.elim
/-- e2e/hostlaw.has -/
def hostlaw_has.Call (list_b : Option Addr) (list_l list_c : Nat) (x : Int) (w : World) (R : Bool → World → Prop) : Prop :=
  Calls Tryz.prog 31 #[.slice list_b list_l list_c, .int .i64 x] w fun e w' => ∃ r, e = .returned (.bool r) ∧ R r w'
theorem hostlaw_has.Call.mono {list_b list_l list_c x} {w : World} {R R' : Bool → World → Prop} (h : hostlaw_has.Call list_b list_l list_c x w R) (hr : ∀ r w', R r w' → R' r w') : hostlaw_has.Call list_b list_l list_c x w R' :=
  Calls.mono h fun e w' he => by
    obtain ⟨r, h1, h2⟩ := he
    exact ⟨r, h1, hr r w' h2⟩
def hostlaw_has.RV (R : Bool → World → Prop) (v : Value) (w : World) : Prop := match v with
  | .bool r => R r w
  | _ => False
theorem hostlaw_has.RV_elim {R : Bool → World → Prop} {v : Value} {w : World} (h : hostlaw_has.RV R v w) : ∃ r, Ending.returned v = .returned (.bool r) ∧ R r w := by
  unfold hostlaw_has.RV at h
  split at h
  · exact ⟨_, rfl, h⟩
  · exact h.elim
/-- (*e2e/host.Host).Info -/
def host_Host_Info.Call (h0 : Option Addr) (sd : Int) (w : World) (R : Int → Int → Int → Int → Int → Int → Int → Bool → Option Addr → Int → World → Prop) : Prop :=
  Calls Tryz.prog 32 #[.pointer h0, .int .i64 sd] w fun e w' => ∃ r0_0 r0_1 r0_2 r0_3 r0_4 r0_5 r0_6 r0_7 r0_8 r1, e = .returned (.tuple #[.agg #[.int .i64 r0_0, .int .i64 r0_1, .int .i64 r0_2, .int .i64 r0_3, .int .i64 r0_4, .int .i64 r0_5, .int .i64 r0_6, .bool r0_7, .pointer r0_8], .int .i64 r1]) ∧ R r0_0 r0_1 r0_2 r0_3 r0_4 r0_5 r0_6 r0_7 r0_8 r1 w'
theorem host_Host_Info.Call.mono {h0 sd} {w : World} {R R' : Int → Int → Int → Int → Int → Int → Int → Bool → Option Addr → Int → World → Prop} (h : host_Host_Info.Call h0 sd w R) (hr : ∀ r0_0 r0_1 r0_2 r0_3 r0_4 r0_5 r0_6 r0_7 r0_8 r1 w', R r0_0 r0_1 r0_2 r0_3 r0_4 r0_5 r0_6 r0_7 r0_8 r1 w' → R' r0_0 r0_1 r0_2 r0_3 r0_4 r0_5 r0_6 r0_7 r0_8 r1 w') : host_Host_Info.Call h0 sd w R' :=
  Calls.mono h fun e w' he => by
    obtain ⟨r0_0, r0_1, r0_2, r0_3, r0_4, r0_5, r0_6, r0_7, r0_8, r1, h1, h2⟩ := he
    exact ⟨r0_0, r0_1, r0_2, r0_3, r0_4, r0_5, r0_6, r0_7, r0_8, r1, h1, hr r0_0 r0_1 r0_2 r0_3 r0_4 r0_5 r0_6 r0_7 r0_8 r1 w' h2⟩
def host_Host_Info.RV (R : Int → Int → Int → Int → Int → Int → Int → Bool → Option Addr → Int → World → Prop) (v : Value) (w : World) : Prop := match v with
  | .tuple ⟨[.agg ⟨[.int .i64 r0_0, .int .i64 r0_1, .int .i64 r0_2, .int .i64 r0_3, .int .i64 r0_4, .int .i64 r0_5, .int .i64 r0_6, .bool r0_7, .pointer r0_8]⟩, .int .i64 r1]⟩ => R r0_0 r0_1 r0_2 r0_3 r0_4 r0_5 r0_6 r0_7 r0_8 r1 w
  | _ => False
theorem host_Host_Info.RV_elim {R : Int → Int → Int → Int → Int → Int → Int → Bool → Option Addr → Int → World → Prop} {v : Value} {w : World} (h : host_Host_Info.RV R v w) : ∃ r0_0 r0_1 r0_2 r0_3 r0_4 r0_5 r0_6 r0_7 r0_8 r1, Ending.returned v = .returned (.tuple #[.agg #[.int .i64 r0_0, .int .i64 r0_1, .int .i64 r0_2, .int .i64 r0_3, .int .i64 r0_4, .int .i64 r0_5, .int .i64 r0_6, .bool r0_7, .pointer r0_8], .int .i64 r1]) ∧ R r0_0 r0_1 r0_2 r0_3 r0_4 r0_5 r0_6 r0_7 r0_8 r1 w := by
  unfold host_Host_Info.RV at h
  split at h
  · exact ⟨_, _, _, _, _, _, _, _, _, _, rfl, h⟩
  · exact h.elim
/-- (*e2e/hostm.Net).See -/
def hostm_Net_See.Call (n : Option Addr) (host s_0 s_1 s_2 s_3 s_4 s_5 s_6 : Int) (s_7 : Bool) (s_8 : Option Addr) (w : World) (R : Bool → World → Prop) : Prop :=
  Calls Tryz.prog 33 #[.pointer n, .int .i64 host, .agg #[.int .i64 s_0, .int .i64 s_1, .int .i64 s_2, .int .i64 s_3, .int .i64 s_4, .int .i64 s_5, .int .i64 s_6, .bool s_7, .pointer s_8]] w fun e w' => ∃ r, e = .returned (.bool r) ∧ R r w'
theorem hostm_Net_See.Call.mono {n host s_0 s_1 s_2 s_3 s_4 s_5 s_6 s_7 s_8} {w : World} {R R' : Bool → World → Prop} (h : hostm_Net_See.Call n host s_0 s_1 s_2 s_3 s_4 s_5 s_6 s_7 s_8 w R) (hr : ∀ r w', R r w' → R' r w') : hostm_Net_See.Call n host s_0 s_1 s_2 s_3 s_4 s_5 s_6 s_7 s_8 w R' :=
  Calls.mono h fun e w' he => by
    obtain ⟨r, h1, h2⟩ := he
    exact ⟨r, h1, hr r w' h2⟩
def hostm_Net_See.RV (R : Bool → World → Prop) (v : Value) (w : World) : Prop := match v with
  | .bool r => R r w
  | _ => False
theorem hostm_Net_See.RV_elim {R : Bool → World → Prop} {v : Value} {w : World} (h : hostm_Net_See.RV R v w) : ∃ r, Ending.returned v = .returned (.bool r) ∧ R r w := by
  unfold hostm_Net_See.RV at h
  split at h
  · exact ⟨_, rfl, h⟩
  · exact h.elim
/-- (*e2e/hostlaw.World).waits -/
def hostlaw_World_waits.Call (w0 : Option Addr) (c sd : Int) (w : World) (R : Int → World → Prop) : Prop :=
  Calls Tryz.prog 34 #[.pointer w0, .int .i64 c, .int .i64 sd] w fun e w' => ∃ r, e = .returned (.int .i64 r) ∧ R r w'
theorem hostlaw_World_waits.Call.mono {w0 c sd} {w : World} {R R' : Int → World → Prop} (h : hostlaw_World_waits.Call w0 c sd w R) (hr : ∀ r w', R r w' → R' r w') : hostlaw_World_waits.Call w0 c sd w R' :=
  Calls.mono h fun e w' he => by
    obtain ⟨r, h1, h2⟩ := he
    exact ⟨r, h1, hr r w' h2⟩
def hostlaw_World_waits.RV (R : Int → World → Prop) (v : Value) (w : World) : Prop := match v with
  | .int .i64 r => R r w
  | _ => False
theorem hostlaw_World_waits.RV_elim {R : Int → World → Prop} {v : Value} {w : World} (h : hostlaw_World_waits.RV R v w) : ∃ r, Ending.returned v = .returned (.int .i64 r) ∧ R r w := by
  unfold hostlaw_World_waits.RV at h
  split at h
  · exact ⟨_, rfl, h⟩
  · exact h.elim
/-- (*e2e/hostlaw.World).Seam -/
def hostlaw_World_Seam.Call (w0 : Option Addr) (c : Int) (w : World) (R : Bool → World → Prop) : Prop :=
  Calls Tryz.prog 35 #[.pointer w0, .int .i64 c] w fun e w' => ∃ r, e = .returned (.bool r) ∧ R r w'
theorem hostlaw_World_Seam.Call.mono {w0 c} {w : World} {R R' : Bool → World → Prop} (h : hostlaw_World_Seam.Call w0 c w R) (hr : ∀ r w', R r w' → R' r w') : hostlaw_World_Seam.Call w0 c w R' :=
  Calls.mono h fun e w' he => by
    obtain ⟨r, h1, h2⟩ := he
    exact ⟨r, h1, hr r w' h2⟩
def hostlaw_World_Seam.RV (R : Bool → World → Prop) (v : Value) (w : World) : Prop := match v with
  | .bool r => R r w
  | _ => False
theorem hostlaw_World_Seam.RV_elim {R : Bool → World → Prop} {v : Value} {w : World} (h : hostlaw_World_Seam.RV R v w) : ∃ r, Ending.returned v = .returned (.bool r) ∧ R r w := by
  unfold hostlaw_World_Seam.RV at h
  split at h
  · exact ⟨_, rfl, h⟩
  · exact h.elim
/-- (*e2e/hostm.Net).Unlisted -/
def hostm_Net_Unlisted.Call (n : Option Addr) (i : Int) (w : World) (R : Bool → World → Prop) : Prop :=
  Calls Tryz.prog 36 #[.pointer n, .int .i64 i] w fun e w' => ∃ r, e = .returned (.bool r) ∧ R r w'
theorem hostm_Net_Unlisted.Call.mono {n i} {w : World} {R R' : Bool → World → Prop} (h : hostm_Net_Unlisted.Call n i w R) (hr : ∀ r w', R r w' → R' r w') : hostm_Net_Unlisted.Call n i w R' :=
  Calls.mono h fun e w' he => by
    obtain ⟨r, h1, h2⟩ := he
    exact ⟨r, h1, hr r w' h2⟩
def hostm_Net_Unlisted.RV (R : Bool → World → Prop) (v : Value) (w : World) : Prop := match v with
  | .bool r => R r w
  | _ => False
theorem hostm_Net_Unlisted.RV_elim {R : Bool → World → Prop} {v : Value} {w : World} (h : hostm_Net_Unlisted.RV R v w) : ∃ r, Ending.returned v = .returned (.bool r) ∧ R r w := by
  unfold hostm_Net_Unlisted.RV at h
  split at h
  · exact ⟨_, rfl, h⟩
  · exact h.elim
/-- (*e2e/hostlaw.World).sweep -/
def hostlaw_World_sweep.Call (w0 : Option Addr) (w : World) (R : World → Prop) : Prop :=
  Calls Tryz.prog 37 #[.pointer w0] w fun e w' => e = .returned (.tuple #[]) ∧ R w'
theorem hostlaw_World_sweep.Call.mono {w0} {w : World} {R R' : World → Prop} (h : hostlaw_World_sweep.Call w0 w R) (hr : ∀ w', R w' → R'  w') : hostlaw_World_sweep.Call w0 w R' :=
  Calls.mono h fun e w' he => by
    obtain ⟨h1, h2⟩ := he
    exact ⟨h1, hr  w' h2⟩
def hostlaw_World_sweep.RV (R : World → Prop) (v : Value) (w : World) : Prop := match v with
  | .tuple ⟨[]⟩ => R w
  | _ => False
theorem hostlaw_World_sweep.RV_elim {R : World → Prop} {v : Value} {w : World} (h : hostlaw_World_sweep.RV R v w) : Ending.returned v = .returned (.tuple #[]) ∧ R w := by
  unfold hostlaw_World_sweep.RV at h
  split at h
  · exact ⟨rfl, h⟩
  · exact h.elim
/-- (*e2e/hostlaw.World).Deliver -/
def hostlaw_World_Deliver.Call (w0 : Option Addr) (i : Int) (w : World) (R : Bool → World → Prop) : Prop :=
  Calls Tryz.prog 38 #[.pointer w0, .int .i64 i] w fun e w' => ∃ r, e = .returned (.bool r) ∧ R r w'
theorem hostlaw_World_Deliver.Call.mono {w0 i} {w : World} {R R' : Bool → World → Prop} (h : hostlaw_World_Deliver.Call w0 i w R) (hr : ∀ r w', R r w' → R' r w') : hostlaw_World_Deliver.Call w0 i w R' :=
  Calls.mono h fun e w' he => by
    obtain ⟨r, h1, h2⟩ := he
    exact ⟨r, h1, hr r w' h2⟩
def hostlaw_World_Deliver.RV (R : Bool → World → Prop) (v : Value) (w : World) : Prop := match v with
  | .bool r => R r w
  | _ => False
theorem hostlaw_World_Deliver.RV_elim {R : Bool → World → Prop} {v : Value} {w : World} (h : hostlaw_World_Deliver.RV R v w) : ∃ r, Ending.returned v = .returned (.bool r) ∧ R r w := by
  unfold hostlaw_World_Deliver.RV at h
  split at h
  · exact ⟨_, rfl, h⟩
  · exact h.elim
/-- (*e2e/hostlaw.World).Tick -/
def hostlaw_World_Tick.Call (w0 : Option Addr) (w : World) (R : Bool → World → Prop) : Prop :=
  Calls Tryz.prog 39 #[.pointer w0] w fun e w' => ∃ r, e = .returned (.bool r) ∧ R r w'
theorem hostlaw_World_Tick.Call.mono {w0} {w : World} {R R' : Bool → World → Prop} (h : hostlaw_World_Tick.Call w0 w R) (hr : ∀ r w', R r w' → R' r w') : hostlaw_World_Tick.Call w0 w R' :=
  Calls.mono h fun e w' he => by
    obtain ⟨r, h1, h2⟩ := he
    exact ⟨r, h1, hr r w' h2⟩
def hostlaw_World_Tick.RV (R : Bool → World → Prop) (v : Value) (w : World) : Prop := match v with
  | .bool r => R r w
  | _ => False
theorem hostlaw_World_Tick.RV_elim {R : Bool → World → Prop} {v : Value} {w : World} (h : hostlaw_World_Tick.RV R v w) : ∃ r, Ending.returned v = .returned (.bool r) ∧ R r w := by
  unfold hostlaw_World_Tick.RV at h
  split at h
  · exact ⟨_, rfl, h⟩
  · exact h.elim
/-- (*e2e/hostlaw.World).Settle -/
def hostlaw_World_Settle.Call (w0 : Option Addr) (w : World) (R : Bool → World → Prop) : Prop :=
  Calls Tryz.prog 40 #[.pointer w0] w fun e w' => ∃ r, e = .returned (.bool r) ∧ R r w'
theorem hostlaw_World_Settle.Call.mono {w0} {w : World} {R R' : Bool → World → Prop} (h : hostlaw_World_Settle.Call w0 w R) (hr : ∀ r w', R r w' → R' r w') : hostlaw_World_Settle.Call w0 w R' :=
  Calls.mono h fun e w' he => by
    obtain ⟨r, h1, h2⟩ := he
    exact ⟨r, h1, hr r w' h2⟩
def hostlaw_World_Settle.RV (R : Bool → World → Prop) (v : Value) (w : World) : Prop := match v with
  | .bool r => R r w
  | _ => False
theorem hostlaw_World_Settle.RV_elim {R : Bool → World → Prop} {v : Value} {w : World} (h : hostlaw_World_Settle.RV R v w) : ∃ r, Ending.returned v = .returned (.bool r) ∧ R r w := by
  unfold hostlaw_World_Settle.RV at h
  split at h
  · exact ⟨_, rfl, h⟩
  · exact h.elim
/-- (*e2e/wirem.Wire).Drop -/
def wirem_Wire_Drop.Call (w0 : Option Addr) (i : Int) (w : World) (R : Bool → World → Prop) : Prop :=
  Calls Tryz.prog 41 #[.pointer w0, .int .i64 i] w fun e w' => ∃ r, e = .returned (.bool r) ∧ R r w'
theorem wirem_Wire_Drop.Call.mono {w0 i} {w : World} {R R' : Bool → World → Prop} (h : wirem_Wire_Drop.Call w0 i w R) (hr : ∀ r w', R r w' → R' r w') : wirem_Wire_Drop.Call w0 i w R' :=
  Calls.mono h fun e w' he => by
    obtain ⟨r, h1, h2⟩ := he
    exact ⟨r, h1, hr r w' h2⟩
def wirem_Wire_Drop.RV (R : Bool → World → Prop) (v : Value) (w : World) : Prop := match v with
  | .bool r => R r w
  | _ => False
theorem wirem_Wire_Drop.RV_elim {R : Bool → World → Prop} {v : Value} {w : World} (h : wirem_Wire_Drop.RV R v w) : ∃ r, Ending.returned v = .returned (.bool r) ∧ R r w := by
  unfold wirem_Wire_Drop.RV at h
  split at h
  · exact ⟨_, rfl, h⟩
  · exact h.elim
/-- (*e2e/wirem.Wire).Double -/
def wirem_Wire_Double.Call (w0 : Option Addr) (i : Int) (w : World) (R : Bool → World → Prop) : Prop :=
  Calls Tryz.prog 42 #[.pointer w0, .int .i64 i] w fun e w' => ∃ r, e = .returned (.bool r) ∧ R r w'
theorem wirem_Wire_Double.Call.mono {w0 i} {w : World} {R R' : Bool → World → Prop} (h : wirem_Wire_Double.Call w0 i w R) (hr : ∀ r w', R r w' → R' r w') : wirem_Wire_Double.Call w0 i w R' :=
  Calls.mono h fun e w' he => by
    obtain ⟨r, h1, h2⟩ := he
    exact ⟨r, h1, hr r w' h2⟩
def wirem_Wire_Double.RV (R : Bool → World → Prop) (v : Value) (w : World) : Prop := match v with
  | .bool r => R r w
  | _ => False
theorem wirem_Wire_Double.RV_elim {R : Bool → World → Prop} {v : Value} {w : World} (h : wirem_Wire_Double.RV R v w) : ∃ r, Ending.returned v = .returned (.bool r) ∧ R r w := by
  unfold wirem_Wire_Double.RV at h
  split at h
  · exact ⟨_, rfl, h⟩
  · exact h.elim
/-- (*e2e/wirem.Wire).Flip -/
def wirem_Wire_Flip.Call (w0 : Option Addr) (i bit : Int) (w : World) (R : Bool → World → Prop) : Prop :=
  Calls Tryz.prog 43 #[.pointer w0, .int .i64 i, .int .i64 bit] w fun e w' => ∃ r, e = .returned (.bool r) ∧ R r w'
theorem wirem_Wire_Flip.Call.mono {w0 i bit} {w : World} {R R' : Bool → World → Prop} (h : wirem_Wire_Flip.Call w0 i bit w R) (hr : ∀ r w', R r w' → R' r w') : wirem_Wire_Flip.Call w0 i bit w R' :=
  Calls.mono h fun e w' he => by
    obtain ⟨r, h1, h2⟩ := he
    exact ⟨r, h1, hr r w' h2⟩
def wirem_Wire_Flip.RV (R : Bool → World → Prop) (v : Value) (w : World) : Prop := match v with
  | .bool r => R r w
  | _ => False
theorem wirem_Wire_Flip.RV_elim {R : Bool → World → Prop} {v : Value} {w : World} (h : wirem_Wire_Flip.RV R v w) : ∃ r, Ending.returned v = .returned (.bool r) ∧ R r w := by
  unfold wirem_Wire_Flip.RV at h
  split at h
  · exact ⟨_, rfl, h⟩
  · exact h.elim
/-- (*e2e/hostlaw.World).Listen -/
def hostlaw_World_Listen.Call (w0 : Option Addr) (c port : Int) (w : World) (R : Bool → World → Prop) : Prop :=
  Calls Tryz.prog 44 #[.pointer w0, .int .i64 c, .int .i64 port] w fun e w' => ∃ r, e = .returned (.bool r) ∧ R r w'
theorem hostlaw_World_Listen.Call.mono {w0 c port} {w : World} {R R' : Bool → World → Prop} (h : hostlaw_World_Listen.Call w0 c port w R) (hr : ∀ r w', R r w' → R' r w') : hostlaw_World_Listen.Call w0 c port w R' :=
  Calls.mono h fun e w' he => by
    obtain ⟨r, h1, h2⟩ := he
    exact ⟨r, h1, hr r w' h2⟩
def hostlaw_World_Listen.RV (R : Bool → World → Prop) (v : Value) (w : World) : Prop := match v with
  | .bool r => R r w
  | _ => False
theorem hostlaw_World_Listen.RV_elim {R : Bool → World → Prop} {v : Value} {w : World} (h : hostlaw_World_Listen.RV R v w) : ∃ r, Ending.returned v = .returned (.bool r) ∧ R r w := by
  unfold hostlaw_World_Listen.RV at h
  split at h
  · exact ⟨_, rfl, h⟩
  · exact h.elim
/-- (*e2e/hostlaw.World).Connect -/
def hostlaw_World_Connect.Call (w0 : Option Addr) (c rhost rport : Int) (w : World) (R : Bool → World → Prop) : Prop :=
  Calls Tryz.prog 45 #[.pointer w0, .int .i64 c, .int .i64 rhost, .int .i64 rport] w fun e w' => ∃ r, e = .returned (.bool r) ∧ R r w'
theorem hostlaw_World_Connect.Call.mono {w0 c rhost rport} {w : World} {R R' : Bool → World → Prop} (h : hostlaw_World_Connect.Call w0 c rhost rport w R) (hr : ∀ r w', R r w' → R' r w') : hostlaw_World_Connect.Call w0 c rhost rport w R' :=
  Calls.mono h fun e w' he => by
    obtain ⟨r, h1, h2⟩ := he
    exact ⟨r, h1, hr r w' h2⟩
def hostlaw_World_Connect.RV (R : Bool → World → Prop) (v : Value) (w : World) : Prop := match v with
  | .bool r => R r w
  | _ => False
theorem hostlaw_World_Connect.RV_elim {R : Bool → World → Prop} {v : Value} {w : World} (h : hostlaw_World_Connect.RV R v w) : ∃ r, Ending.returned v = .returned (.bool r) ∧ R r w := by
  unfold hostlaw_World_Connect.RV at h
  split at h
  · exact ⟨_, rfl, h⟩
  · exact h.elim
/-- (*e2e/hostlaw.World).Accept -/
def hostlaw_World_Accept.Call (w0 : Option Addr) (c lsd : Int) (w : World) (R : Bool → World → Prop) : Prop :=
  Calls Tryz.prog 46 #[.pointer w0, .int .i64 c, .int .i64 lsd] w fun e w' => ∃ r, e = .returned (.bool r) ∧ R r w'
theorem hostlaw_World_Accept.Call.mono {w0 c lsd} {w : World} {R R' : Bool → World → Prop} (h : hostlaw_World_Accept.Call w0 c lsd w R) (hr : ∀ r w', R r w' → R' r w') : hostlaw_World_Accept.Call w0 c lsd w R' :=
  Calls.mono h fun e w' he => by
    obtain ⟨r, h1, h2⟩ := he
    exact ⟨r, h1, hr r w' h2⟩
def hostlaw_World_Accept.RV (R : Bool → World → Prop) (v : Value) (w : World) : Prop := match v with
  | .bool r => R r w
  | _ => False
theorem hostlaw_World_Accept.RV_elim {R : Bool → World → Prop} {v : Value} {w : World} (h : hostlaw_World_Accept.RV R v w) : ∃ r, Ending.returned v = .returned (.bool r) ∧ R r w := by
  unfold hostlaw_World_Accept.RV at h
  split at h
  · exact ⟨_, rfl, h⟩
  · exact h.elim
/-- (*e2e/hostlaw.World).Send -/
def hostlaw_World_Send.Call (w0 : Option Addr) (c sd : Int) (data_b : Option Addr) (data_l data_c : Nat) (w : World) (R : Bool → World → Prop) : Prop :=
  Calls Tryz.prog 47 #[.pointer w0, .int .i64 c, .int .i64 sd, .slice data_b data_l data_c] w fun e w' => ∃ r, e = .returned (.bool r) ∧ R r w'
theorem hostlaw_World_Send.Call.mono {w0 c sd data_b data_l data_c} {w : World} {R R' : Bool → World → Prop} (h : hostlaw_World_Send.Call w0 c sd data_b data_l data_c w R) (hr : ∀ r w', R r w' → R' r w') : hostlaw_World_Send.Call w0 c sd data_b data_l data_c w R' :=
  Calls.mono h fun e w' he => by
    obtain ⟨r, h1, h2⟩ := he
    exact ⟨r, h1, hr r w' h2⟩
def hostlaw_World_Send.RV (R : Bool → World → Prop) (v : Value) (w : World) : Prop := match v with
  | .bool r => R r w
  | _ => False
theorem hostlaw_World_Send.RV_elim {R : Bool → World → Prop} {v : Value} {w : World} (h : hostlaw_World_Send.RV R v w) : ∃ r, Ending.returned v = .returned (.bool r) ∧ R r w := by
  unfold hostlaw_World_Send.RV at h
  split at h
  · exact ⟨_, rfl, h⟩
  · exact h.elim
/-- (*e2e/hostlaw.World).Recv -/
def hostlaw_World_Recv.Call (w0 : Option Addr) (c sd max : Int) (w : World) (R : Bool → World → Prop) : Prop :=
  Calls Tryz.prog 48 #[.pointer w0, .int .i64 c, .int .i64 sd, .int .i64 max] w fun e w' => ∃ r, e = .returned (.bool r) ∧ R r w'
theorem hostlaw_World_Recv.Call.mono {w0 c sd max} {w : World} {R R' : Bool → World → Prop} (h : hostlaw_World_Recv.Call w0 c sd max w R) (hr : ∀ r w', R r w' → R' r w') : hostlaw_World_Recv.Call w0 c sd max w R' :=
  Calls.mono h fun e w' he => by
    obtain ⟨r, h1, h2⟩ := he
    exact ⟨r, h1, hr r w' h2⟩
def hostlaw_World_Recv.RV (R : Bool → World → Prop) (v : Value) (w : World) : Prop := match v with
  | .bool r => R r w
  | _ => False
theorem hostlaw_World_Recv.RV_elim {R : Bool → World → Prop} {v : Value} {w : World} (h : hostlaw_World_Recv.RV R v w) : ∃ r, Ending.returned v = .returned (.bool r) ∧ R r w := by
  unfold hostlaw_World_Recv.RV at h
  split at h
  · exact ⟨_, rfl, h⟩
  · exact h.elim
/-- (*e2e/hostlaw.World).End -/
def hostlaw_World_End.Call (w0 : Option Addr) (c sd : Int) (abort : Bool) (w : World) (R : Bool → World → Prop) : Prop :=
  Calls Tryz.prog 49 #[.pointer w0, .int .i64 c, .int .i64 sd, .bool abort] w fun e w' => ∃ r, e = .returned (.bool r) ∧ R r w'
theorem hostlaw_World_End.Call.mono {w0 c sd abort} {w : World} {R R' : Bool → World → Prop} (h : hostlaw_World_End.Call w0 c sd abort w R) (hr : ∀ r w', R r w' → R' r w') : hostlaw_World_End.Call w0 c sd abort w R' :=
  Calls.mono h fun e w' he => by
    obtain ⟨r, h1, h2⟩ := he
    exact ⟨r, h1, hr r w' h2⟩
def hostlaw_World_End.RV (R : Bool → World → Prop) (v : Value) (w : World) : Prop := match v with
  | .bool r => R r w
  | _ => False
theorem hostlaw_World_End.RV_elim {R : Bool → World → Prop} {v : Value} {w : World} (h : hostlaw_World_End.RV R v w) : ∃ r, Ending.returned v = .returned (.bool r) ∧ R r w := by
  unfold hostlaw_World_End.RV at h
  split at h
  · exact ⟨_, rfl, h⟩
  · exact h.elim
/-- (*e2e/hostlaw.World).Observe -/
def hostlaw_World_Observe.Call (w0 : Option Addr) (c o_0 o_1 o_2 o_3 : Int) (o_4 o_5 : ByteArray) (w : World) (R : Bool → World → Prop) : Prop :=
  Calls Tryz.prog 50 #[.pointer w0, .int .i64 c, .agg #[.int .i64 o_0, .int .i64 o_1, .int .i64 o_2, .int .i64 o_3, .string o_4, .string o_5]] w fun e w' => ∃ r, e = .returned (.bool r) ∧ R r w'
theorem hostlaw_World_Observe.Call.mono {w0 c o_0 o_1 o_2 o_3 o_4 o_5} {w : World} {R R' : Bool → World → Prop} (h : hostlaw_World_Observe.Call w0 c o_0 o_1 o_2 o_3 o_4 o_5 w R) (hr : ∀ r w', R r w' → R' r w') : hostlaw_World_Observe.Call w0 c o_0 o_1 o_2 o_3 o_4 o_5 w R' :=
  Calls.mono h fun e w' he => by
    obtain ⟨r, h1, h2⟩ := he
    exact ⟨r, h1, hr r w' h2⟩
def hostlaw_World_Observe.RV (R : Bool → World → Prop) (v : Value) (w : World) : Prop := match v with
  | .bool r => R r w
  | _ => False
theorem hostlaw_World_Observe.RV_elim {R : Bool → World → Prop} {v : Value} {w : World} (h : hostlaw_World_Observe.RV R v w) : ∃ r, Ending.returned v = .returned (.bool r) ∧ R r w := by
  unfold hostlaw_World_Observe.RV at h
  split at h
  · exact ⟨_, rfl, h⟩
  · exact h.elim
/-- e2e/hostlaw.Token -/
def hostlaw_Token.Call (j : Int) (w : World) (R : Option Addr → Nat → Nat → World → Prop) : Prop :=
  Calls Tryz.prog 51 #[.int .i64 j] w fun e w' => ∃ r_b r_l r_c, e = .returned (.slice r_b r_l r_c) ∧ R r_b r_l r_c w'
theorem hostlaw_Token.Call.mono {j} {w : World} {R R' : Option Addr → Nat → Nat → World → Prop} (h : hostlaw_Token.Call j w R) (hr : ∀ r_b r_l r_c w', R r_b r_l r_c w' → R' r_b r_l r_c w') : hostlaw_Token.Call j w R' :=
  Calls.mono h fun e w' he => by
    obtain ⟨r_b, r_l, r_c, h1, h2⟩ := he
    exact ⟨r_b, r_l, r_c, h1, hr r_b r_l r_c w' h2⟩
def hostlaw_Token.RV (R : Option Addr → Nat → Nat → World → Prop) (v : Value) (w : World) : Prop := match v with
  | .slice r_b r_l r_c => R r_b r_l r_c w
  | _ => False
theorem hostlaw_Token.RV_elim {R : Option Addr → Nat → Nat → World → Prop} {v : Value} {w : World} (h : hostlaw_Token.RV R v w) : ∃ r_b r_l r_c, Ending.returned v = .returned (.slice r_b r_l r_c) ∧ R r_b r_l r_c w := by
  unfold hostlaw_Token.RV at h
  split at h
  · exact ⟨_, _, _, rfl, h⟩
  · exact h.elim
/-- e2e/api.SameBytes -/
def api_SameBytes.Call (a_b : Option Addr) (a_l a_c : Nat) (b_b : Option Addr) (b_l b_c : Nat) (w : World) (R : Bool → World → Prop) : Prop :=
  Calls Tryz.prog 52 #[.slice a_b a_l a_c, .slice b_b b_l b_c] w fun e w' => ∃ r, e = .returned (.bool r) ∧ R r w'
theorem api_SameBytes.Call.mono {a_b a_l a_c b_b b_l b_c} {w : World} {R R' : Bool → World → Prop} (h : api_SameBytes.Call a_b a_l a_c b_b b_l b_c w R) (hr : ∀ r w', R r w' → R' r w') : api_SameBytes.Call a_b a_l a_c b_b b_l b_c w R' :=
  Calls.mono h fun e w' he => by
    obtain ⟨r, h1, h2⟩ := he
    exact ⟨r, h1, hr r w' h2⟩
def api_SameBytes.RV (R : Bool → World → Prop) (v : Value) (w : World) : Prop := match v with
  | .bool r => R r w
  | _ => False
theorem api_SameBytes.RV_elim {R : Bool → World → Prop} {v : Value} {w : World} (h : api_SameBytes.RV R v w) : ∃ r, Ending.returned v = .returned (.bool r) ∧ R r w := by
  unfold api_SameBytes.RV at h
  split at h
  · exact ⟨_, rfl, h⟩
  · exact h.elim
/-- e2e/hostlaw.Stamp -/
def hostlaw_Stamp.Call (j i : Int) (w : World) (R : Int → World → Prop) : Prop :=
  Calls Tryz.prog 53 #[.int .i64 j, .int .i64 i] w fun e w' => ∃ r, e = .returned (.int .u8 r) ∧ R r w'
theorem hostlaw_Stamp.Call.mono {j i} {w : World} {R R' : Int → World → Prop} (h : hostlaw_Stamp.Call j i w R) (hr : ∀ r w', R r w' → R' r w') : hostlaw_Stamp.Call j i w R' :=
  Calls.mono h fun e w' he => by
    obtain ⟨r, h1, h2⟩ := he
    exact ⟨r, h1, hr r w' h2⟩
def hostlaw_Stamp.RV (R : Int → World → Prop) (v : Value) (w : World) : Prop := match v with
  | .int .u8 r => R r w
  | _ => False
theorem hostlaw_Stamp.RV_elim {R : Int → World → Prop} {v : Value} {w : World} (h : hostlaw_Stamp.RV R v w) : ∃ r, Ending.returned v = .returned (.int .u8 r) ∧ R r w := by
  unfold hostlaw_Stamp.RV at h
  split at h
  · exact ⟨_, rfl, h⟩
  · exact h.elim
/-- (*e2e/hostm.Net).failed -/
def hostm_Net_failed.Call (n : Option Addr) (i : Int) (w : World) (R : Bool → World → Prop) : Prop :=
  Calls Tryz.prog 54 #[.pointer n, .int .i64 i] w fun e w' => ∃ r, e = .returned (.bool r) ∧ R r w'
theorem hostm_Net_failed.Call.mono {n i} {w : World} {R R' : Bool → World → Prop} (h : hostm_Net_failed.Call n i w R) (hr : ∀ r w', R r w' → R' r w') : hostm_Net_failed.Call n i w R' :=
  Calls.mono h fun e w' he => by
    obtain ⟨r, h1, h2⟩ := he
    exact ⟨r, h1, hr r w' h2⟩
def hostm_Net_failed.RV (R : Bool → World → Prop) (v : Value) (w : World) : Prop := match v with
  | .bool r => R r w
  | _ => False
theorem hostm_Net_failed.RV_elim {R : Bool → World → Prop} {v : Value} {w : World} (h : hostm_Net_failed.RV R v w) : ∃ r, Ending.returned v = .returned (.bool r) ∧ R r w := by
  unfold hostm_Net_failed.RV at h
  split at h
  · exact ⟨_, rfl, h⟩
  · exact h.elim
/-- (*e2e/hostlaw.World).ours -/
def hostlaw_World_ours.Call (w0 : Option Addr) (c sd : Int) (w : World) (R : Int → Int → Int → Int → Int → Int → Int → Bool → Option Addr → Bool → World → Prop) : Prop :=
  Calls Tryz.prog 55 #[.pointer w0, .int .i64 c, .int .i64 sd] w fun e w' => ∃ r0_0 r0_1 r0_2 r0_3 r0_4 r0_5 r0_6 r0_7 r0_8 r1, e = .returned (.tuple #[.agg #[.int .i64 r0_0, .int .i64 r0_1, .int .i64 r0_2, .int .i64 r0_3, .int .i64 r0_4, .int .i64 r0_5, .int .i64 r0_6, .bool r0_7, .pointer r0_8], .bool r1]) ∧ R r0_0 r0_1 r0_2 r0_3 r0_4 r0_5 r0_6 r0_7 r0_8 r1 w'
theorem hostlaw_World_ours.Call.mono {w0 c sd} {w : World} {R R' : Int → Int → Int → Int → Int → Int → Int → Bool → Option Addr → Bool → World → Prop} (h : hostlaw_World_ours.Call w0 c sd w R) (hr : ∀ r0_0 r0_1 r0_2 r0_3 r0_4 r0_5 r0_6 r0_7 r0_8 r1 w', R r0_0 r0_1 r0_2 r0_3 r0_4 r0_5 r0_6 r0_7 r0_8 r1 w' → R' r0_0 r0_1 r0_2 r0_3 r0_4 r0_5 r0_6 r0_7 r0_8 r1 w') : hostlaw_World_ours.Call w0 c sd w R' :=
  Calls.mono h fun e w' he => by
    obtain ⟨r0_0, r0_1, r0_2, r0_3, r0_4, r0_5, r0_6, r0_7, r0_8, r1, h1, h2⟩ := he
    exact ⟨r0_0, r0_1, r0_2, r0_3, r0_4, r0_5, r0_6, r0_7, r0_8, r1, h1, hr r0_0 r0_1 r0_2 r0_3 r0_4 r0_5 r0_6 r0_7 r0_8 r1 w' h2⟩
def hostlaw_World_ours.RV (R : Int → Int → Int → Int → Int → Int → Int → Bool → Option Addr → Bool → World → Prop) (v : Value) (w : World) : Prop := match v with
  | .tuple ⟨[.agg ⟨[.int .i64 r0_0, .int .i64 r0_1, .int .i64 r0_2, .int .i64 r0_3, .int .i64 r0_4, .int .i64 r0_5, .int .i64 r0_6, .bool r0_7, .pointer r0_8]⟩, .bool r1]⟩ => R r0_0 r0_1 r0_2 r0_3 r0_4 r0_5 r0_6 r0_7 r0_8 r1 w
  | _ => False
theorem hostlaw_World_ours.RV_elim {R : Int → Int → Int → Int → Int → Int → Int → Bool → Option Addr → Bool → World → Prop} {v : Value} {w : World} (h : hostlaw_World_ours.RV R v w) : ∃ r0_0 r0_1 r0_2 r0_3 r0_4 r0_5 r0_6 r0_7 r0_8 r1, Ending.returned v = .returned (.tuple #[.agg #[.int .i64 r0_0, .int .i64 r0_1, .int .i64 r0_2, .int .i64 r0_3, .int .i64 r0_4, .int .i64 r0_5, .int .i64 r0_6, .bool r0_7, .pointer r0_8], .bool r1]) ∧ R r0_0 r0_1 r0_2 r0_3 r0_4 r0_5 r0_6 r0_7 r0_8 r1 w := by
  unfold hostlaw_World_ours.RV at h
  split at h
  · exact ⟨_, _, _, _, _, _, _, _, _, _, rfl, h⟩
  · exact h.elim
/-- (*e2e/hostlaw.World).listens -/
def hostlaw_World_listens.Call (w0 : Option Addr) (c port : Int) (w : World) (R : Bool → World → Prop) : Prop :=
  Calls Tryz.prog 56 #[.pointer w0, .int .i64 c, .int .i64 port] w fun e w' => ∃ r, e = .returned (.bool r) ∧ R r w'
theorem hostlaw_World_listens.Call.mono {w0 c port} {w : World} {R R' : Bool → World → Prop} (h : hostlaw_World_listens.Call w0 c port w R) (hr : ∀ r w', R r w' → R' r w') : hostlaw_World_listens.Call w0 c port w R' :=
  Calls.mono h fun e w' he => by
    obtain ⟨r, h1, h2⟩ := he
    exact ⟨r, h1, hr r w' h2⟩
def hostlaw_World_listens.RV (R : Bool → World → Prop) (v : Value) (w : World) : Prop := match v with
  | .bool r => R r w
  | _ => False
theorem hostlaw_World_listens.RV_elim {R : Bool → World → Prop} {v : Value} {w : World} (h : hostlaw_World_listens.RV R v w) : ∃ r, Ending.returned v = .returned (.bool r) ∧ R r w := by
  unfold hostlaw_World_listens.RV at h
  split at h
  · exact ⟨_, rfl, h⟩
  · exact h.elim
/-- (*e2e/hostm.Net).AllGone -/
def hostm_Net_AllGone.Call (n : Option Addr) (w : World) (R : Bool → World → Prop) : Prop :=
  Calls Tryz.prog 57 #[.pointer n] w fun e w' => ∃ r, e = .returned (.bool r) ∧ R r w'
theorem hostm_Net_AllGone.Call.mono {n} {w : World} {R R' : Bool → World → Prop} (h : hostm_Net_AllGone.Call n w R) (hr : ∀ r w', R r w' → R' r w') : hostm_Net_AllGone.Call n w R' :=
  Calls.mono h fun e w' he => by
    obtain ⟨r, h1, h2⟩ := he
    exact ⟨r, h1, hr r w' h2⟩
def hostm_Net_AllGone.RV (R : Bool → World → Prop) (v : Value) (w : World) : Prop := match v with
  | .bool r => R r w
  | _ => False
theorem hostm_Net_AllGone.RV_elim {R : Bool → World → Prop} {v : Value} {w : World} (h : hostm_Net_AllGone.RV R v w) : ∃ r, Ending.returned v = .returned (.bool r) ∧ R r w := by
  unfold hostm_Net_AllGone.RV at h
  split at h
  · exact ⟨_, rfl, h⟩
  · exact h.elim
/-- e2e/frame.New -/
def frame_New.Call (addr : Int) (w : World) (R : Option Addr → World → Prop) : Prop :=
  Calls Tryz.prog 58 #[.int .i64 addr] w fun e w' => ∃ r, e = .returned (.pointer r) ∧ R r w'
theorem frame_New.Call.mono {addr} {w : World} {R R' : Option Addr → World → Prop} (h : frame_New.Call addr w R) (hr : ∀ r w', R r w' → R' r w') : frame_New.Call addr w R' :=
  Calls.mono h fun e w' he => by
    obtain ⟨r, h1, h2⟩ := he
    exact ⟨r, h1, hr r w' h2⟩
def frame_New.RV (R : Option Addr → World → Prop) (v : Value) (w : World) : Prop := match v with
  | .pointer r => R r w
  | _ => False
theorem frame_New.RV_elim {R : Option Addr → World → Prop} {v : Value} {w : World} (h : frame_New.RV R v w) : ∃ r, Ending.returned v = .returned (.pointer r) ∧ R r w := by
  unfold frame_New.RV at h
  split at h
  · exact ⟨_, rfl, h⟩
  · exact h.elim
/-- e2e/ip.New -/
def ip_New.Call (addr : Int) (w : World) (R : Option Addr → World → Prop) : Prop :=
  Calls Tryz.prog 59 #[.int .i64 addr] w fun e w' => ∃ r, e = .returned (.pointer r) ∧ R r w'
theorem ip_New.Call.mono {addr} {w : World} {R R' : Option Addr → World → Prop} (h : ip_New.Call addr w R) (hr : ∀ r w', R r w' → R' r w') : ip_New.Call addr w R' :=
  Calls.mono h fun e w' he => by
    obtain ⟨r, h1, h2⟩ := he
    exact ⟨r, h1, hr r w' h2⟩
def ip_New.RV (R : Option Addr → World → Prop) (v : Value) (w : World) : Prop := match v with
  | .pointer r => R r w
  | _ => False
theorem ip_New.RV_elim {R : Option Addr → World → Prop} {v : Value} {w : World} (h : ip_New.RV R v w) : ∃ r, Ending.returned v = .returned (.pointer r) ∧ R r w := by
  unfold ip_New.RV at h
  split at h
  · exact ⟨_, rfl, h⟩
  · exact h.elim
/-- e2e/sock.New -/
def sock_New.Call  (w : World) (R : Option Addr → World → Prop) : Prop :=
  Calls Tryz.prog 60 #[] w fun e w' => ∃ r, e = .returned (.pointer r) ∧ R r w'
theorem sock_New.Call.mono {w : World} {R R' : Option Addr → World → Prop} (h : sock_New.Call w R) (hr : ∀ r w', R r w' → R' r w') : sock_New.Call w R' :=
  Calls.mono h fun e w' he => by
    obtain ⟨r, h1, h2⟩ := he
    exact ⟨r, h1, hr r w' h2⟩
def sock_New.RV (R : Option Addr → World → Prop) (v : Value) (w : World) : Prop := match v with
  | .pointer r => R r w
  | _ => False
theorem sock_New.RV_elim {R : Option Addr → World → Prop} {v : Value} {w : World} (h : sock_New.RV R v w) : ∃ r, Ending.returned v = .returned (.pointer r) ∧ R r w := by
  unfold sock_New.RV at h
  split at h
  · exact ⟨_, rfl, h⟩
  · exact h.elim
/-- e2e/seg.NewSendBuf -/
def seg_NewSendBuf.Call  (w : World) (R : Option Addr → World → Prop) : Prop :=
  Calls Tryz.prog 61 #[] w fun e w' => ∃ r, e = .returned (.pointer r) ∧ R r w'
theorem seg_NewSendBuf.Call.mono {w : World} {R R' : Option Addr → World → Prop} (h : seg_NewSendBuf.Call w R) (hr : ∀ r w', R r w' → R' r w') : seg_NewSendBuf.Call w R' :=
  Calls.mono h fun e w' he => by
    obtain ⟨r, h1, h2⟩ := he
    exact ⟨r, h1, hr r w' h2⟩
def seg_NewSendBuf.RV (R : Option Addr → World → Prop) (v : Value) (w : World) : Prop := match v with
  | .pointer r => R r w
  | _ => False
theorem seg_NewSendBuf.RV_elim {R : Option Addr → World → Prop} {v : Value} {w : World} (h : seg_NewSendBuf.RV R v w) : ∃ r, Ending.returned v = .returned (.pointer r) ∧ R r w := by
  unfold seg_NewSendBuf.RV at h
  split at h
  · exact ⟨_, rfl, h⟩
  · exact h.elim
/-- e2e/seg.NewRecvBuf -/
def seg_NewRecvBuf.Call  (w : World) (R : Option Addr → World → Prop) : Prop :=
  Calls Tryz.prog 62 #[] w fun e w' => ∃ r, e = .returned (.pointer r) ∧ R r w'
theorem seg_NewRecvBuf.Call.mono {w : World} {R R' : Option Addr → World → Prop} (h : seg_NewRecvBuf.Call w R) (hr : ∀ r w', R r w' → R' r w') : seg_NewRecvBuf.Call w R' :=
  Calls.mono h fun e w' he => by
    obtain ⟨r, h1, h2⟩ := he
    exact ⟨r, h1, hr r w' h2⟩
def seg_NewRecvBuf.RV (R : Option Addr → World → Prop) (v : Value) (w : World) : Prop := match v with
  | .pointer r => R r w
  | _ => False
theorem seg_NewRecvBuf.RV_elim {R : Option Addr → World → Prop} {v : Value} {w : World} (h : seg_NewRecvBuf.RV R v w) : ∃ r, Ending.returned v = .returned (.pointer r) ∧ R r w := by
  unfold seg_NewRecvBuf.RV at h
  split at h
  · exact ⟨_, rfl, h⟩
  · exact h.elim
/-- e2e/conn.New -/
def conn_New.Call (sb rb : Option Addr) (w : World) (R : Option Addr → World → Prop) : Prop :=
  Calls Tryz.prog 63 #[.pointer sb, .pointer rb] w fun e w' => ∃ r, e = .returned (.pointer r) ∧ R r w'
theorem conn_New.Call.mono {sb rb} {w : World} {R R' : Option Addr → World → Prop} (h : conn_New.Call sb rb w R) (hr : ∀ r w', R r w' → R' r w') : conn_New.Call sb rb w R' :=
  Calls.mono h fun e w' he => by
    obtain ⟨r, h1, h2⟩ := he
    exact ⟨r, h1, hr r w' h2⟩
def conn_New.RV (R : Option Addr → World → Prop) (v : Value) (w : World) : Prop := match v with
  | .pointer r => R r w
  | _ => False
theorem conn_New.RV_elim {R : Option Addr → World → Prop} {v : Value} {w : World} (h : conn_New.RV R v w) : ∃ r, Ending.returned v = .returned (.pointer r) ∧ R r w := by
  unfold conn_New.RV at h
  split at h
  · exact ⟨_, rfl, h⟩
  · exact h.elim
/-- (*e2e/sock.Table).List -/
def sock_Table_List.Call (t : Option Addr) (w : World) (R : Option Addr → Nat → Nat → World → Prop) : Prop :=
  Calls Tryz.prog 64 #[.pointer t] w fun e w' => ∃ r_b r_l r_c, e = .returned (.slice r_b r_l r_c) ∧ R r_b r_l r_c w'
theorem sock_Table_List.Call.mono {t} {w : World} {R R' : Option Addr → Nat → Nat → World → Prop} (h : sock_Table_List.Call t w R) (hr : ∀ r_b r_l r_c w', R r_b r_l r_c w' → R' r_b r_l r_c w') : sock_Table_List.Call t w R' :=
  Calls.mono h fun e w' he => by
    obtain ⟨r_b, r_l, r_c, h1, h2⟩ := he
    exact ⟨r_b, r_l, r_c, h1, hr r_b r_l r_c w' h2⟩
def sock_Table_List.RV (R : Option Addr → Nat → Nat → World → Prop) (v : Value) (w : World) : Prop := match v with
  | .slice r_b r_l r_c => R r_b r_l r_c w
  | _ => False
theorem sock_Table_List.RV_elim {R : Option Addr → Nat → Nat → World → Prop} {v : Value} {w : World} (h : sock_Table_List.RV R v w) : ∃ r_b r_l r_c, Ending.returned v = .returned (.slice r_b r_l r_c) ∧ R r_b r_l r_c w := by
  unfold sock_Table_List.RV at h
  split at h
  · exact ⟨_, _, _, rfl, h⟩
  · exact h.elim
/-- (*e2e/sock.Table).Get -/
def sock_Table_Get.Call (t : Option Addr) (sd : Int) (w : World) (R : Int → Int → Int → Int → Int → Int → Int → Bool → Int → World → Prop) : Prop :=
  Calls Tryz.prog 65 #[.pointer t, .int .i64 sd] w fun e w' => ∃ r0_0 r0_1 r0_2 r0_3 r0_4 r0_5 r0_6 r0_7 r1, e = .returned (.tuple #[.agg #[.int .i64 r0_0, .int .i64 r0_1, .int .i64 r0_2, .int .i64 r0_3, .int .i64 r0_4, .int .i64 r0_5, .int .i64 r0_6, .bool r0_7], .int .i64 r1]) ∧ R r0_0 r0_1 r0_2 r0_3 r0_4 r0_5 r0_6 r0_7 r1 w'
theorem sock_Table_Get.Call.mono {t sd} {w : World} {R R' : Int → Int → Int → Int → Int → Int → Int → Bool → Int → World → Prop} (h : sock_Table_Get.Call t sd w R) (hr : ∀ r0_0 r0_1 r0_2 r0_3 r0_4 r0_5 r0_6 r0_7 r1 w', R r0_0 r0_1 r0_2 r0_3 r0_4 r0_5 r0_6 r0_7 r1 w' → R' r0_0 r0_1 r0_2 r0_3 r0_4 r0_5 r0_6 r0_7 r1 w') : sock_Table_Get.Call t sd w R' :=
  Calls.mono h fun e w' he => by
    obtain ⟨r0_0, r0_1, r0_2, r0_3, r0_4, r0_5, r0_6, r0_7, r1, h1, h2⟩ := he
    exact ⟨r0_0, r0_1, r0_2, r0_3, r0_4, r0_5, r0_6, r0_7, r1, h1, hr r0_0 r0_1 r0_2 r0_3 r0_4 r0_5 r0_6 r0_7 r1 w' h2⟩
def sock_Table_Get.RV (R : Int → Int → Int → Int → Int → Int → Int → Bool → Int → World → Prop) (v : Value) (w : World) : Prop := match v with
  | .tuple ⟨[.agg ⟨[.int .i64 r0_0, .int .i64 r0_1, .int .i64 r0_2, .int .i64 r0_3, .int .i64 r0_4, .int .i64 r0_5, .int .i64 r0_6, .bool r0_7]⟩, .int .i64 r1]⟩ => R r0_0 r0_1 r0_2 r0_3 r0_4 r0_5 r0_6 r0_7 r1 w
  | _ => False
theorem sock_Table_Get.RV_elim {R : Int → Int → Int → Int → Int → Int → Int → Bool → Int → World → Prop} {v : Value} {w : World} (h : sock_Table_Get.RV R v w) : ∃ r0_0 r0_1 r0_2 r0_3 r0_4 r0_5 r0_6 r0_7 r1, Ending.returned v = .returned (.tuple #[.agg #[.int .i64 r0_0, .int .i64 r0_1, .int .i64 r0_2, .int .i64 r0_3, .int .i64 r0_4, .int .i64 r0_5, .int .i64 r0_6, .bool r0_7], .int .i64 r1]) ∧ R r0_0 r0_1 r0_2 r0_3 r0_4 r0_5 r0_6 r0_7 r1 w := by
  unfold sock_Table_Get.RV at h
  split at h
  · exact ⟨_, _, _, _, _, _, _, _, _, rfl, h⟩
  · exact h.elim
/-- (*e2e/conn.Conn).Info -/
def conn_Conn_Info.Call (c : Option Addr) (w : World) (R : Option Addr → World → Prop) : Prop :=
  Calls Tryz.prog 66 #[.pointer c] w fun e w' => ∃ r, e = .returned (.pointer r) ∧ R r w'
theorem conn_Conn_Info.Call.mono {c} {w : World} {R R' : Option Addr → World → Prop} (h : conn_Conn_Info.Call c w R) (hr : ∀ r w', R r w' → R' r w') : conn_Conn_Info.Call c w R' :=
  Calls.mono h fun e w' he => by
    obtain ⟨r, h1, h2⟩ := he
    exact ⟨r, h1, hr r w' h2⟩
def conn_Conn_Info.RV (R : Option Addr → World → Prop) (v : Value) (w : World) : Prop := match v with
  | .pointer r => R r w
  | _ => False
theorem conn_Conn_Info.RV_elim {R : Option Addr → World → Prop} {v : Value} {w : World} (h : conn_Conn_Info.RV R v w) : ∃ r, Ending.returned v = .returned (.pointer r) ∧ R r w := by
  unfold conn_Conn_Info.RV at h
  split at h
  · exact ⟨_, rfl, h⟩
  · exact h.elim
/-- (*e2e/frame.Link).Addr -/
def frame_Link_Addr.Call (l : Option Addr) (w : World) (R : Int → World → Prop) : Prop :=
  Calls Tryz.prog 67 #[.pointer l] w fun e w' => ∃ r, e = .returned (.int .i64 r) ∧ R r w'
theorem frame_Link_Addr.Call.mono {l} {w : World} {R R' : Int → World → Prop} (h : frame_Link_Addr.Call l w R) (hr : ∀ r w', R r w' → R' r w') : frame_Link_Addr.Call l w R' :=
  Calls.mono h fun e w' he => by
    obtain ⟨r, h1, h2⟩ := he
    exact ⟨r, h1, hr r w' h2⟩
def frame_Link_Addr.RV (R : Int → World → Prop) (v : Value) (w : World) : Prop := match v with
  | .int .i64 r => R r w
  | _ => False
theorem frame_Link_Addr.RV_elim {R : Int → World → Prop} {v : Value} {w : World} (h : frame_Link_Addr.RV R v w) : ∃ r, Ending.returned v = .returned (.int .i64 r) ∧ R r w := by
  unfold frame_Link_Addr.RV at h
  split at h
  · exact ⟨_, rfl, h⟩
  · exact h.elim
/-- (*e2e/ip.IP).Addr -/
def ip_IP_Addr.Call (p : Option Addr) (w : World) (R : Int → World → Prop) : Prop :=
  Calls Tryz.prog 68 #[.pointer p] w fun e w' => ∃ r, e = .returned (.int .i64 r) ∧ R r w'
theorem ip_IP_Addr.Call.mono {p} {w : World} {R R' : Int → World → Prop} (h : ip_IP_Addr.Call p w R) (hr : ∀ r w', R r w' → R' r w') : ip_IP_Addr.Call p w R' :=
  Calls.mono h fun e w' he => by
    obtain ⟨r, h1, h2⟩ := he
    exact ⟨r, h1, hr r w' h2⟩
def ip_IP_Addr.RV (R : Int → World → Prop) (v : Value) (w : World) : Prop := match v with
  | .int .i64 r => R r w
  | _ => False
theorem ip_IP_Addr.RV_elim {R : Int → World → Prop} {v : Value} {w : World} (h : ip_IP_Addr.RV R v w) : ∃ r, Ending.returned v = .returned (.int .i64 r) ∧ R r w := by
  unfold ip_IP_Addr.RV at h
  split at h
  · exact ⟨_, rfl, h⟩
  · exact h.elim
/-- (*e2e/hostm.Net).Find -/
def hostm_Net_Find.Call (n : Option Addr) (host sd : Int) (w : World) (R : Int → World → Prop) : Prop :=
  Calls Tryz.prog 69 #[.pointer n, .int .i64 host, .int .i64 sd] w fun e w' => ∃ r, e = .returned (.int .i64 r) ∧ R r w'
theorem hostm_Net_Find.Call.mono {n host sd} {w : World} {R R' : Int → World → Prop} (h : hostm_Net_Find.Call n host sd w R) (hr : ∀ r w', R r w' → R' r w') : hostm_Net_Find.Call n host sd w R' :=
  Calls.mono h fun e w' he => by
    obtain ⟨r, h1, h2⟩ := he
    exact ⟨r, h1, hr r w' h2⟩
def hostm_Net_Find.RV (R : Int → World → Prop) (v : Value) (w : World) : Prop := match v with
  | .int .i64 r => R r w
  | _ => False
theorem hostm_Net_Find.RV_elim {R : Int → World → Prop} {v : Value} {w : World} (h : hostm_Net_Find.RV R v w) : ∃ r, Ending.returned v = .returned (.int .i64 r) ∧ R r w := by
  unfold hostm_Net_Find.RV at h
  split at h
  · exact ⟨_, rfl, h⟩
  · exact h.elim
/-- (*e2e/hostm.Net).latest -/
def hostm_Net_latest.Call (n : Option Addr) (host lport rhost rport : Int) (client : Bool) (w : World) (R : Int → World → Prop) : Prop :=
  Calls Tryz.prog 70 #[.pointer n, .int .i64 host, .int .i64 lport, .int .i64 rhost, .int .i64 rport, .bool client] w fun e w' => ∃ r, e = .returned (.int .i64 r) ∧ R r w'
theorem hostm_Net_latest.Call.mono {n host lport rhost rport client} {w : World} {R R' : Int → World → Prop} (h : hostm_Net_latest.Call n host lport rhost rport client w R) (hr : ∀ r w', R r w' → R' r w') : hostm_Net_latest.Call n host lport rhost rport client w R' :=
  Calls.mono h fun e w' he => by
    obtain ⟨r, h1, h2⟩ := he
    exact ⟨r, h1, hr r w' h2⟩
def hostm_Net_latest.RV (R : Int → World → Prop) (v : Value) (w : World) : Prop := match v with
  | .int .i64 r => R r w
  | _ => False
theorem hostm_Net_latest.RV_elim {R : Int → World → Prop} {v : Value} {w : World} (h : hostm_Net_latest.RV R v w) : ∃ r, Ending.returned v = .returned (.int .i64 r) ∧ R r w := by
  unfold hostm_Net_latest.RV at h
  split at h
  · exact ⟨_, rfl, h⟩
  · exact h.elim
/-- e2e/hostm.MayStep -/
def hostm_MayStep.Call (from0 to0 : Int) (w : World) (R : Bool → World → Prop) : Prop :=
  Calls Tryz.prog 71 #[.int .i64 from0, .int .i64 to0] w fun e w' => ∃ r, e = .returned (.bool r) ∧ R r w'
theorem hostm_MayStep.Call.mono {from0 to0} {w : World} {R R' : Bool → World → Prop} (h : hostm_MayStep.Call from0 to0 w R) (hr : ∀ r w', R r w' → R' r w') : hostm_MayStep.Call from0 to0 w R' :=
  Calls.mono h fun e w' he => by
    obtain ⟨r, h1, h2⟩ := he
    exact ⟨r, h1, hr r w' h2⟩
def hostm_MayStep.RV (R : Bool → World → Prop) (v : Value) (w : World) : Prop := match v with
  | .bool r => R r w
  | _ => False
theorem hostm_MayStep.RV_elim {R : Bool → World → Prop} {v : Value} {w : World} (h : hostm_MayStep.RV R v w) : ∃ r, Ending.returned v = .returned (.bool r) ∧ R r w := by
  unfold hostm_MayStep.RV at h
  split at h
  · exact ⟨_, rfl, h⟩
  · exact h.elim
/-- e2e/hostlaw.SameInts -/
def hostlaw_SameInts.Call (a_b : Option Addr) (a_l a_c : Nat) (b_b : Option Addr) (b_l b_c : Nat) (w : World) (R : Bool → World → Prop) : Prop :=
  Calls Tryz.prog 72 #[.slice a_b a_l a_c, .slice b_b b_l b_c] w fun e w' => ∃ r, e = .returned (.bool r) ∧ R r w'
theorem hostlaw_SameInts.Call.mono {a_b a_l a_c b_b b_l b_c} {w : World} {R R' : Bool → World → Prop} (h : hostlaw_SameInts.Call a_b a_l a_c b_b b_l b_c w R) (hr : ∀ r w', R r w' → R' r w') : hostlaw_SameInts.Call a_b a_l a_c b_b b_l b_c w R' :=
  Calls.mono h fun e w' he => by
    obtain ⟨r, h1, h2⟩ := he
    exact ⟨r, h1, hr r w' h2⟩
def hostlaw_SameInts.RV (R : Bool → World → Prop) (v : Value) (w : World) : Prop := match v with
  | .bool r => R r w
  | _ => False
theorem hostlaw_SameInts.RV_elim {R : Bool → World → Prop} {v : Value} {w : World} (h : hostlaw_SameInts.RV R v w) : ∃ r, Ending.returned v = .returned (.bool r) ∧ R r w := by
  unfold hostlaw_SameInts.RV at h
  split at h
  · exact ⟨_, rfl, h⟩
  · exact h.elim
/-- e2e/hostlaw.SameEntry -/
def hostlaw_SameEntry.Call (a_0 a_1 a_2 a_3 a_4 a_5 a_6 : Int) (a_7 : Bool) (b_0 b_1 b_2 b_3 b_4 b_5 b_6 : Int) (b_7 : Bool) (w : World) (R : Bool → World → Prop) : Prop :=
  Calls Tryz.prog 73 #[.agg #[.int .i64 a_0, .int .i64 a_1, .int .i64 a_2, .int .i64 a_3, .int .i64 a_4, .int .i64 a_5, .int .i64 a_6, .bool a_7], .agg #[.int .i64 b_0, .int .i64 b_1, .int .i64 b_2, .int .i64 b_3, .int .i64 b_4, .int .i64 b_5, .int .i64 b_6, .bool b_7]] w fun e w' => ∃ r, e = .returned (.bool r) ∧ R r w'
theorem hostlaw_SameEntry.Call.mono {a_0 a_1 a_2 a_3 a_4 a_5 a_6 a_7 b_0 b_1 b_2 b_3 b_4 b_5 b_6 b_7} {w : World} {R R' : Bool → World → Prop} (h : hostlaw_SameEntry.Call a_0 a_1 a_2 a_3 a_4 a_5 a_6 a_7 b_0 b_1 b_2 b_3 b_4 b_5 b_6 b_7 w R) (hr : ∀ r w', R r w' → R' r w') : hostlaw_SameEntry.Call a_0 a_1 a_2 a_3 a_4 a_5 a_6 a_7 b_0 b_1 b_2 b_3 b_4 b_5 b_6 b_7 w R' :=
  Calls.mono h fun e w' he => by
    obtain ⟨r, h1, h2⟩ := he
    exact ⟨r, h1, hr r w' h2⟩
def hostlaw_SameEntry.RV (R : Bool → World → Prop) (v : Value) (w : World) : Prop := match v with
  | .bool r => R r w
  | _ => False
theorem hostlaw_SameEntry.RV_elim {R : Bool → World → Prop} {v : Value} {w : World} (h : hostlaw_SameEntry.RV R v w) : ∃ r, Ending.returned v = .returned (.bool r) ∧ R r w := by
  unfold hostlaw_SameEntry.RV at h
  split at h
  · exact ⟨_, rfl, h⟩
  · exact h.elim
/-- e2e/hostlaw.SameConn -/
def hostlaw_SameConn.Call (a b : Option Addr) (w : World) (R : Bool → World → Prop) : Prop :=
  Calls Tryz.prog 74 #[.pointer a, .pointer b] w fun e w' => ∃ r, e = .returned (.bool r) ∧ R r w'
theorem hostlaw_SameConn.Call.mono {a b} {w : World} {R R' : Bool → World → Prop} (h : hostlaw_SameConn.Call a b w R) (hr : ∀ r w', R r w' → R' r w') : hostlaw_SameConn.Call a b w R' :=
  Calls.mono h fun e w' he => by
    obtain ⟨r, h1, h2⟩ := he
    exact ⟨r, h1, hr r w' h2⟩
def hostlaw_SameConn.RV (R : Bool → World → Prop) (v : Value) (w : World) : Prop := match v with
  | .bool r => R r w
  | _ => False
theorem hostlaw_SameConn.RV_elim {R : Bool → World → Prop} {v : Value} {w : World} (h : hostlaw_SameConn.RV R v w) : ∃ r, Ending.returned v = .returned (.bool r) ∧ R r w := by
  unfold hostlaw_SameConn.RV at h
  split at h
  · exact ⟨_, rfl, h⟩
  · exact h.elim
/-- (*e2e/hostm.Net).has -/
def hostm_Net_has.Call (n : Option Addr) (i : Int) (w : World) (R : Bool → World → Prop) : Prop :=
  Calls Tryz.prog 75 #[.pointer n, .int .i64 i] w fun e w' => ∃ r, e = .returned (.bool r) ∧ R r w'
theorem hostm_Net_has.Call.mono {n i} {w : World} {R R' : Bool → World → Prop} (h : hostm_Net_has.Call n i w R) (hr : ∀ r w', R r w' → R' r w') : hostm_Net_has.Call n i w R' :=
  Calls.mono h fun e w' he => by
    obtain ⟨r, h1, h2⟩ := he
    exact ⟨r, h1, hr r w' h2⟩
def hostm_Net_has.RV (R : Bool → World → Prop) (v : Value) (w : World) : Prop := match v with
  | .bool r => R r w
  | _ => False
theorem hostm_Net_has.RV_elim {R : Bool → World → Prop} {v : Value} {w : World} (h : hostm_Net_has.RV R v w) : ∃ r, Ending.returned v = .returned (.bool r) ∧ R r w := by
  unfold hostm_Net_has.RV at h
  split at h
  · exact ⟨_, rfl, h⟩
  · exact h.elim
/-- (*e2e/wirem.Wire).Take -/
def wirem_Wire_Take.Call (w0 : Option Addr) (i : Int) (w : World) (R : Option Addr → Nat → Nat → Bool → World → Prop) : Prop :=
  Calls Tryz.prog 76 #[.pointer w0, .int .i64 i] w fun e w' => ∃ r0_b r0_l r0_c r1, e = .returned (.tuple #[.slice r0_b r0_l r0_c, .bool r1]) ∧ R r0_b r0_l r0_c r1 w'
theorem wirem_Wire_Take.Call.mono {w0 i} {w : World} {R R' : Option Addr → Nat → Nat → Bool → World → Prop} (h : wirem_Wire_Take.Call w0 i w R) (hr : ∀ r0_b r0_l r0_c r1 w', R r0_b r0_l r0_c r1 w' → R' r0_b r0_l r0_c r1 w') : wirem_Wire_Take.Call w0 i w R' :=
  Calls.mono h fun e w' he => by
    obtain ⟨r0_b, r0_l, r0_c, r1, h1, h2⟩ := he
    exact ⟨r0_b, r0_l, r0_c, r1, h1, hr r0_b r0_l r0_c r1 w' h2⟩
def wirem_Wire_Take.RV (R : Option Addr → Nat → Nat → Bool → World → Prop) (v : Value) (w : World) : Prop := match v with
  | .tuple ⟨[.slice r0_b r0_l r0_c, .bool r1]⟩ => R r0_b r0_l r0_c r1 w
  | _ => False
theorem wirem_Wire_Take.RV_elim {R : Option Addr → Nat → Nat → Bool → World → Prop} {v : Value} {w : World} (h : wirem_Wire_Take.RV R v w) : ∃ r0_b r0_l r0_c r1, Ending.returned v = .returned (.tuple #[.slice r0_b r0_l r0_c, .bool r1]) ∧ R r0_b r0_l r0_c r1 w := by
  unfold wirem_Wire_Take.RV at h
  split at h
  · exact ⟨_, _, _, _, rfl, h⟩
  · exact h.elim
/-- e2e/api.CopyBytes -/
def api_CopyBytes.Call (b_b : Option Addr) (b_l b_c : Nat) (w : World) (R : Option Addr → Nat → Nat → World → Prop) : Prop :=
  Calls Tryz.prog 77 #[.slice b_b b_l b_c] w fun e w' => ∃ r_b r_l r_c, e = .returned (.slice r_b r_l r_c) ∧ R r_b r_l r_c w'
theorem api_CopyBytes.Call.mono {b_b b_l b_c} {w : World} {R R' : Option Addr → Nat → Nat → World → Prop} (h : api_CopyBytes.Call b_b b_l b_c w R) (hr : ∀ r_b r_l r_c w', R r_b r_l r_c w' → R' r_b r_l r_c w') : api_CopyBytes.Call b_b b_l b_c w R' :=
  Calls.mono h fun e w' he => by
    obtain ⟨r_b, r_l, r_c, h1, h2⟩ := he
    exact ⟨r_b, r_l, r_c, h1, hr r_b r_l r_c w' h2⟩
def api_CopyBytes.RV (R : Option Addr → Nat → Nat → World → Prop) (v : Value) (w : World) : Prop := match v with
  | .slice r_b r_l r_c => R r_b r_l r_c w
  | _ => False
theorem api_CopyBytes.RV_elim {R : Option Addr → Nat → Nat → World → Prop} {v : Value} {w : World} (h : api_CopyBytes.RV R v w) : ∃ r_b r_l r_c, Ending.returned v = .returned (.slice r_b r_l r_c) ∧ R r_b r_l r_c w := by
  unfold api_CopyBytes.RV at h
  split at h
  · exact ⟨_, _, _, rfl, h⟩
  · exact h.elim
/-- (*e2e/host.Host).Input -/
def host_Host_Input.Call (h0 raw_b : Option Addr) (raw_l raw_c : Nat) (w : World) (R : Option Addr → Nat → Nat → World → Prop) : Prop :=
  Calls Tryz.prog 78 #[.pointer h0, .slice raw_b raw_l raw_c] w fun e w' => ∃ r_b r_l r_c, e = .returned (.slice r_b r_l r_c) ∧ R r_b r_l r_c w'
theorem host_Host_Input.Call.mono {h0 raw_b raw_l raw_c} {w : World} {R R' : Option Addr → Nat → Nat → World → Prop} (h : host_Host_Input.Call h0 raw_b raw_l raw_c w R) (hr : ∀ r_b r_l r_c w', R r_b r_l r_c w' → R' r_b r_l r_c w') : host_Host_Input.Call h0 raw_b raw_l raw_c w R' :=
  Calls.mono h fun e w' he => by
    obtain ⟨r_b, r_l, r_c, h1, h2⟩ := he
    exact ⟨r_b, r_l, r_c, h1, hr r_b r_l r_c w' h2⟩
def host_Host_Input.RV (R : Option Addr → Nat → Nat → World → Prop) (v : Value) (w : World) : Prop := match v with
  | .slice r_b r_l r_c => R r_b r_l r_c w
  | _ => False
theorem host_Host_Input.RV_elim {R : Option Addr → Nat → Nat → World → Prop} {v : Value} {w : World} (h : host_Host_Input.RV R v w) : ∃ r_b r_l r_c, Ending.returned v = .returned (.slice r_b r_l r_c) ∧ R r_b r_l r_c w := by
  unfold host_Host_Input.RV at h
  split at h
  · exact ⟨_, _, _, rfl, h⟩
  · exact h.elim
/-- e2e/hostlaw.Scribble -/
def hostlaw_Scribble.Call (b_b : Option Addr) (b_l b_c : Nat) (w : World) (R : World → Prop) : Prop :=
  Calls Tryz.prog 79 #[.slice b_b b_l b_c] w fun e w' => e = .returned (.tuple #[]) ∧ R w'
theorem hostlaw_Scribble.Call.mono {b_b b_l b_c} {w : World} {R R' : World → Prop} (h : hostlaw_Scribble.Call b_b b_l b_c w R) (hr : ∀ w', R w' → R'  w') : hostlaw_Scribble.Call b_b b_l b_c w R' :=
  Calls.mono h fun e w' he => by
    obtain ⟨h1, h2⟩ := he
    exact ⟨h1, hr  w' h2⟩
def hostlaw_Scribble.RV (R : World → Prop) (v : Value) (w : World) : Prop := match v with
  | .tuple ⟨[]⟩ => R w
  | _ => False
theorem hostlaw_Scribble.RV_elim {R : World → Prop} {v : Value} {w : World} (h : hostlaw_Scribble.RV R v w) : Ending.returned v = .returned (.tuple #[]) ∧ R w := by
  unfold hostlaw_Scribble.RV at h
  split at h
  · exact ⟨rfl, h⟩
  · exact h.elim
/-- e2e/hostlaw.SameFrames -/
def hostlaw_SameFrames.Call (a_b : Option Addr) (a_l a_c : Nat) (b_b : Option Addr) (b_l b_c : Nat) (w : World) (R : Bool → World → Prop) : Prop :=
  Calls Tryz.prog 80 #[.slice a_b a_l a_c, .slice b_b b_l b_c] w fun e w' => ∃ r, e = .returned (.bool r) ∧ R r w'
theorem hostlaw_SameFrames.Call.mono {a_b a_l a_c b_b b_l b_c} {w : World} {R R' : Bool → World → Prop} (h : hostlaw_SameFrames.Call a_b a_l a_c b_b b_l b_c w R) (hr : ∀ r w', R r w' → R' r w') : hostlaw_SameFrames.Call a_b a_l a_c b_b b_l b_c w R' :=
  Calls.mono h fun e w' he => by
    obtain ⟨r, h1, h2⟩ := he
    exact ⟨r, h1, hr r w' h2⟩
def hostlaw_SameFrames.RV (R : Bool → World → Prop) (v : Value) (w : World) : Prop := match v with
  | .bool r => R r w
  | _ => False
theorem hostlaw_SameFrames.RV_elim {R : Bool → World → Prop} {v : Value} {w : World} (h : hostlaw_SameFrames.RV R v w) : ∃ r, Ending.returned v = .returned (.bool r) ∧ R r w := by
  unfold hostlaw_SameFrames.RV at h
  split at h
  · exact ⟨_, rfl, h⟩
  · exact h.elim
/-- (*e2e/hostlaw.World).OwnAll -/
def hostlaw_World_OwnAll.Call (w0 fr_b : Option Addr) (fr_l fr_c : Nat) (w : World) (R : World → Prop) : Prop :=
  Calls Tryz.prog 81 #[.pointer w0, .slice fr_b fr_l fr_c] w fun e w' => e = .returned (.tuple #[]) ∧ R w'
theorem hostlaw_World_OwnAll.Call.mono {w0 fr_b fr_l fr_c} {w : World} {R R' : World → Prop} (h : hostlaw_World_OwnAll.Call w0 fr_b fr_l fr_c w R) (hr : ∀ w', R w' → R'  w') : hostlaw_World_OwnAll.Call w0 fr_b fr_l fr_c w R' :=
  Calls.mono h fun e w' he => by
    obtain ⟨h1, h2⟩ := he
    exact ⟨h1, hr  w' h2⟩
def hostlaw_World_OwnAll.RV (R : World → Prop) (v : Value) (w : World) : Prop := match v with
  | .tuple ⟨[]⟩ => R w
  | _ => False
theorem hostlaw_World_OwnAll.RV_elim {R : World → Prop} {v : Value} {w : World} (h : hostlaw_World_OwnAll.RV R v w) : Ending.returned v = .returned (.tuple #[]) ∧ R w := by
  unfold hostlaw_World_OwnAll.RV at h
  split at h
  · exact ⟨rfl, h⟩
  · exact h.elim
/-- (*e2e/hostlaw.World).Put -/
def hostlaw_World_Put.Call (w0 : Option Addr) (c : Int) (fr_b : Option Addr) (fr_l fr_c : Nat) (w : World) (R : World → Prop) : Prop :=
  Calls Tryz.prog 82 #[.pointer w0, .int .i64 c, .slice fr_b fr_l fr_c] w fun e w' => e = .returned (.tuple #[]) ∧ R w'
theorem hostlaw_World_Put.Call.mono {w0 c fr_b fr_l fr_c} {w : World} {R R' : World → Prop} (h : hostlaw_World_Put.Call w0 c fr_b fr_l fr_c w R) (hr : ∀ w', R w' → R'  w') : hostlaw_World_Put.Call w0 c fr_b fr_l fr_c w R' :=
  Calls.mono h fun e w' he => by
    obtain ⟨h1, h2⟩ := he
    exact ⟨h1, hr  w' h2⟩
def hostlaw_World_Put.RV (R : World → Prop) (v : Value) (w : World) : Prop := match v with
  | .tuple ⟨[]⟩ => R w
  | _ => False
theorem hostlaw_World_Put.RV_elim {R : World → Prop} {v : Value} {w : World} (h : hostlaw_World_Put.RV R v w) : Ending.returned v = .returned (.tuple #[]) ∧ R w := by
  unfold hostlaw_World_Put.RV at h
  split at h
  · exact ⟨rfl, h⟩
  · exact h.elim
/-- (*e2e/wirem.Wire).Tick -/
def wirem_Wire_Tick.Call (w0 : Option Addr) (w : World) (R : World → Prop) : Prop :=
  Calls Tryz.prog 83 #[.pointer w0] w fun e w' => e = .returned (.tuple #[]) ∧ R w'
theorem wirem_Wire_Tick.Call.mono {w0} {w : World} {R R' : World → Prop} (h : wirem_Wire_Tick.Call w0 w R) (hr : ∀ w', R w' → R'  w') : wirem_Wire_Tick.Call w0 w R' :=
  Calls.mono h fun e w' he => by
    obtain ⟨h1, h2⟩ := he
    exact ⟨h1, hr  w' h2⟩
def wirem_Wire_Tick.RV (R : World → Prop) (v : Value) (w : World) : Prop := match v with
  | .tuple ⟨[]⟩ => R w
  | _ => False
theorem wirem_Wire_Tick.RV_elim {R : World → Prop} {v : Value} {w : World} (h : wirem_Wire_Tick.RV R v w) : Ending.returned v = .returned (.tuple #[]) ∧ R w := by
  unfold wirem_Wire_Tick.RV at h
  split at h
  · exact ⟨rfl, h⟩
  · exact h.elim
/-- (*e2e/host.Host).Tick -/
def host_Host_Tick.Call (h0 : Option Addr) (w : World) (R : Option Addr → Nat → Nat → World → Prop) : Prop :=
  Calls Tryz.prog 84 #[.pointer h0] w fun e w' => ∃ r_b r_l r_c, e = .returned (.slice r_b r_l r_c) ∧ R r_b r_l r_c w'
theorem host_Host_Tick.Call.mono {h0} {w : World} {R R' : Option Addr → Nat → Nat → World → Prop} (h : host_Host_Tick.Call h0 w R) (hr : ∀ r_b r_l r_c w', R r_b r_l r_c w' → R' r_b r_l r_c w') : host_Host_Tick.Call h0 w R' :=
  Calls.mono h fun e w' he => by
    obtain ⟨r_b, r_l, r_c, h1, h2⟩ := he
    exact ⟨r_b, r_l, r_c, h1, hr r_b r_l r_c w' h2⟩
def host_Host_Tick.RV (R : Option Addr → Nat → Nat → World → Prop) (v : Value) (w : World) : Prop := match v with
  | .slice r_b r_l r_c => R r_b r_l r_c w
  | _ => False
theorem host_Host_Tick.RV_elim {R : Option Addr → Nat → Nat → World → Prop} {v : Value} {w : World} (h : host_Host_Tick.RV R v w) : ∃ r_b r_l r_c, Ending.returned v = .returned (.slice r_b r_l r_c) ∧ R r_b r_l r_c w := by
  unfold host_Host_Tick.RV at h
  split at h
  · exact ⟨_, _, _, rfl, h⟩
  · exact h.elim
/-- (*e2e/wirem.Wire).Len -/
def wirem_Wire_Len.Call (w0 : Option Addr) (w : World) (R : Int → World → Prop) : Prop :=
  Calls Tryz.prog 85 #[.pointer w0] w fun e w' => ∃ r, e = .returned (.int .i64 r) ∧ R r w'
theorem wirem_Wire_Len.Call.mono {w0} {w : World} {R R' : Int → World → Prop} (h : wirem_Wire_Len.Call w0 w R) (hr : ∀ r w', R r w' → R' r w') : wirem_Wire_Len.Call w0 w R' :=
  Calls.mono h fun e w' he => by
    obtain ⟨r, h1, h2⟩ := he
    exact ⟨r, h1, hr r w' h2⟩
def wirem_Wire_Len.RV (R : Int → World → Prop) (v : Value) (w : World) : Prop := match v with
  | .int .i64 r => R r w
  | _ => False
theorem wirem_Wire_Len.RV_elim {R : Int → World → Prop} {v : Value} {w : World} (h : wirem_Wire_Len.RV R v w) : ∃ r, Ending.returned v = .returned (.int .i64 r) ∧ R r w := by
  unfold wirem_Wire_Len.RV at h
  split at h
  · exact ⟨_, rfl, h⟩
  · exact h.elim
/-- (*e2e/wirem.Wire).remove -/
def wirem_Wire_remove.Call (w0 : Option Addr) (i : Int) (w : World) (R : World → Prop) : Prop :=
  Calls Tryz.prog 86 #[.pointer w0, .int .i64 i] w fun e w' => e = .returned (.tuple #[]) ∧ R w'
theorem wirem_Wire_remove.Call.mono {w0 i} {w : World} {R R' : World → Prop} (h : wirem_Wire_remove.Call w0 i w R) (hr : ∀ w', R w' → R'  w') : wirem_Wire_remove.Call w0 i w R' :=
  Calls.mono h fun e w' he => by
    obtain ⟨h1, h2⟩ := he
    exact ⟨h1, hr  w' h2⟩
def wirem_Wire_remove.RV (R : World → Prop) (v : Value) (w : World) : Prop := match v with
  | .tuple ⟨[]⟩ => R w
  | _ => False
theorem wirem_Wire_remove.RV_elim {R : World → Prop} {v : Value} {w : World} (h : wirem_Wire_remove.RV R v w) : Ending.returned v = .returned (.tuple #[]) ∧ R w := by
  unfold wirem_Wire_remove.RV at h
  split at h
  · exact ⟨rfl, h⟩
  · exact h.elim
/-- (*e2e/hostlaw.World).count -/
def hostlaw_World_count.Call (w0 : Option Addr) (c kind : Int) (w : World) (R : Int → World → Prop) : Prop :=
  Calls Tryz.prog 87 #[.pointer w0, .int .i64 c, .int .i64 kind] w fun e w' => ∃ r, e = .returned (.int .i64 r) ∧ R r w'
theorem hostlaw_World_count.Call.mono {w0 c kind} {w : World} {R R' : Int → World → Prop} (h : hostlaw_World_count.Call w0 c kind w R) (hr : ∀ r w', R r w' → R' r w') : hostlaw_World_count.Call w0 c kind w R' :=
  Calls.mono h fun e w' he => by
    obtain ⟨r, h1, h2⟩ := he
    exact ⟨r, h1, hr r w' h2⟩
def hostlaw_World_count.RV (R : Int → World → Prop) (v : Value) (w : World) : Prop := match v with
  | .int .i64 r => R r w
  | _ => False
theorem hostlaw_World_count.RV_elim {R : Int → World → Prop} {v : Value} {w : World} (h : hostlaw_World_count.RV R v w) : ∃ r, Ending.returned v = .returned (.int .i64 r) ∧ R r w := by
  unfold hostlaw_World_count.RV at h
  split at h
  · exact ⟨_, rfl, h⟩
  · exact h.elim
/-- (*e2e/host.Host).Listen -/
def host_Host_Listen.Call (h0 : Option Addr) (port : Int) (w : World) (R : Int → Int → World → Prop) : Prop :=
  Calls Tryz.prog 88 #[.pointer h0, .int .i64 port] w fun e w' => ∃ r0 r1, e = .returned (.tuple #[.int .i64 r0, .int .i64 r1]) ∧ R r0 r1 w'
theorem host_Host_Listen.Call.mono {h0 port} {w : World} {R R' : Int → Int → World → Prop} (h : host_Host_Listen.Call h0 port w R) (hr : ∀ r0 r1 w', R r0 r1 w' → R' r0 r1 w') : host_Host_Listen.Call h0 port w R' :=
  Calls.mono h fun e w' he => by
    obtain ⟨r0, r1, h1, h2⟩ := he
    exact ⟨r0, r1, h1, hr r0 r1 w' h2⟩
def host_Host_Listen.RV (R : Int → Int → World → Prop) (v : Value) (w : World) : Prop := match v with
  | .tuple ⟨[.int .i64 r0, .int .i64 r1]⟩ => R r0 r1 w
  | _ => False
theorem host_Host_Listen.RV_elim {R : Int → Int → World → Prop} {v : Value} {w : World} (h : host_Host_Listen.RV R v w) : ∃ r0 r1, Ending.returned v = .returned (.tuple #[.int .i64 r0, .int .i64 r1]) ∧ R r0 r1 w := by
  unfold host_Host_Listen.RV at h
  split at h
  · exact ⟨_, _, rfl, h⟩
  · exact h.elim
/-- (*e2e/host.Host).Connect -/
def host_Host_Connect.Call (h0 : Option Addr) (rhost rport : Int) (w : World) (R : Int → Option Addr → Nat → Nat → Int → World → Prop) : Prop :=
  Calls Tryz.prog 89 #[.pointer h0, .int .i64 rhost, .int .i64 rport] w fun e w' => ∃ r0 r1_b r1_l r1_c r2, e = .returned (.tuple #[.int .i64 r0, .slice r1_b r1_l r1_c, .int .i64 r2]) ∧ R r0 r1_b r1_l r1_c r2 w'
theorem host_Host_Connect.Call.mono {h0 rhost rport} {w : World} {R R' : Int → Option Addr → Nat → Nat → Int → World → Prop} (h : host_Host_Connect.Call h0 rhost rport w R) (hr : ∀ r0 r1_b r1_l r1_c r2 w', R r0 r1_b r1_l r1_c r2 w' → R' r0 r1_b r1_l r1_c r2 w') : host_Host_Connect.Call h0 rhost rport w R' :=
  Calls.mono h fun e w' he => by
    obtain ⟨r0, r1_b, r1_l, r1_c, r2, h1, h2⟩ := he
    exact ⟨r0, r1_b, r1_l, r1_c, r2, h1, hr r0 r1_b r1_l r1_c r2 w' h2⟩
def host_Host_Connect.RV (R : Int → Option Addr → Nat → Nat → Int → World → Prop) (v : Value) (w : World) : Prop := match v with
  | .tuple ⟨[.int .i64 r0, .slice r1_b r1_l r1_c, .int .i64 r2]⟩ => R r0 r1_b r1_l r1_c r2 w
  | _ => False
theorem host_Host_Connect.RV_elim {R : Int → Option Addr → Nat → Nat → Int → World → Prop} {v : Value} {w : World} (h : host_Host_Connect.RV R v w) : ∃ r0 r1_b r1_l r1_c r2, Ending.returned v = .returned (.tuple #[.int .i64 r0, .slice r1_b r1_l r1_c, .int .i64 r2]) ∧ R r0 r1_b r1_l r1_c r2 w := by
  unfold host_Host_Connect.RV at h
  split at h
  · exact ⟨_, _, _, _, _, rfl, h⟩
  · exact h.elim
/-- (*e2e/hostm.Net).Connected -/
def hostm_Net_Connected.Call (n : Option Addr) (host s_0 s_1 s_2 s_3 s_4 s_5 s_6 : Int) (s_7 : Bool) (s_8 : Option Addr) (w : World) (R : Bool → World → Prop) : Prop :=
  Calls Tryz.prog 90 #[.pointer n, .int .i64 host, .agg #[.int .i64 s_0, .int .i64 s_1, .int .i64 s_2, .int .i64 s_3, .int .i64 s_4, .int .i64 s_5, .int .i64 s_6, .bool s_7, .pointer s_8]] w fun e w' => ∃ r, e = .returned (.bool r) ∧ R r w'
theorem hostm_Net_Connected.Call.mono {n host s_0 s_1 s_2 s_3 s_4 s_5 s_6 s_7 s_8} {w : World} {R R' : Bool → World → Prop} (h : hostm_Net_Connected.Call n host s_0 s_1 s_2 s_3 s_4 s_5 s_6 s_7 s_8 w R) (hr : ∀ r w', R r w' → R' r w') : hostm_Net_Connected.Call n host s_0 s_1 s_2 s_3 s_4 s_5 s_6 s_7 s_8 w R' :=
  Calls.mono h fun e w' he => by
    obtain ⟨r, h1, h2⟩ := he
    exact ⟨r, h1, hr r w' h2⟩
def hostm_Net_Connected.RV (R : Bool → World → Prop) (v : Value) (w : World) : Prop := match v with
  | .bool r => R r w
  | _ => False
theorem hostm_Net_Connected.RV_elim {R : Bool → World → Prop} {v : Value} {w : World} (h : hostm_Net_Connected.RV R v w) : ∃ r, Ending.returned v = .returned (.bool r) ∧ R r w := by
  unfold hostm_Net_Connected.RV at h
  split at h
  · exact ⟨_, rfl, h⟩
  · exact h.elim
/-- (*e2e/hostlaw.World).isListener -/
def hostlaw_World_isListener.Call (w0 : Option Addr) (c sd : Int) (w : World) (R : Bool → World → Prop) : Prop :=
  Calls Tryz.prog 91 #[.pointer w0, .int .i64 c, .int .i64 sd] w fun e w' => ∃ r, e = .returned (.bool r) ∧ R r w'
theorem hostlaw_World_isListener.Call.mono {w0 c sd} {w : World} {R R' : Bool → World → Prop} (h : hostlaw_World_isListener.Call w0 c sd w R) (hr : ∀ r w', R r w' → R' r w') : hostlaw_World_isListener.Call w0 c sd w R' :=
  Calls.mono h fun e w' he => by
    obtain ⟨r, h1, h2⟩ := he
    exact ⟨r, h1, hr r w' h2⟩
def hostlaw_World_isListener.RV (R : Bool → World → Prop) (v : Value) (w : World) : Prop := match v with
  | .bool r => R r w
  | _ => False
theorem hostlaw_World_isListener.RV_elim {R : Bool → World → Prop} {v : Value} {w : World} (h : hostlaw_World_isListener.RV R v w) : ∃ r, Ending.returned v = .returned (.bool r) ∧ R r w := by
  unfold hostlaw_World_isListener.RV at h
  split at h
  · exact ⟨_, rfl, h⟩
  · exact h.elim
/-- (*e2e/host.Host).Accept -/
def host_Host_Accept.Call (h0 : Option Addr) (lsd : Int) (w : World) (R : Int → Int → World → Prop) : Prop :=
  Calls Tryz.prog 92 #[.pointer h0, .int .i64 lsd] w fun e w' => ∃ r0 r1, e = .returned (.tuple #[.int .i64 r0, .int .i64 r1]) ∧ R r0 r1 w'
theorem host_Host_Accept.Call.mono {h0 lsd} {w : World} {R R' : Int → Int → World → Prop} (h : host_Host_Accept.Call h0 lsd w R) (hr : ∀ r0 r1 w', R r0 r1 w' → R' r0 r1 w') : host_Host_Accept.Call h0 lsd w R' :=
  Calls.mono h fun e w' he => by
    obtain ⟨r0, r1, h1, h2⟩ := he
    exact ⟨r0, r1, h1, hr r0 r1 w' h2⟩
def host_Host_Accept.RV (R : Int → Int → World → Prop) (v : Value) (w : World) : Prop := match v with
  | .tuple ⟨[.int .i64 r0, .int .i64 r1]⟩ => R r0 r1 w
  | _ => False
theorem host_Host_Accept.RV_elim {R : Int → Int → World → Prop} {v : Value} {w : World} (h : host_Host_Accept.RV R v w) : ∃ r0 r1, Ending.returned v = .returned (.tuple #[.int .i64 r0, .int .i64 r1]) ∧ R r0 r1 w := by
  unfold host_Host_Accept.RV at h
  split at h
  · exact ⟨_, _, rfl, h⟩
  · exact h.elim
/-- e2e/hostm.WantSend -/
def hostm_WantSend.Call (c : Option Addr) (n : Int) (w : World) (R : Int → Int → World → Prop) : Prop :=
  Calls Tryz.prog 93 #[.pointer c, .int .i64 n] w fun e w' => ∃ r0 r1, e = .returned (.tuple #[.int .i64 r0, .int .i64 r1]) ∧ R r0 r1 w'
theorem hostm_WantSend.Call.mono {c n} {w : World} {R R' : Int → Int → World → Prop} (h : hostm_WantSend.Call c n w R) (hr : ∀ r0 r1 w', R r0 r1 w' → R' r0 r1 w') : hostm_WantSend.Call c n w R' :=
  Calls.mono h fun e w' he => by
    obtain ⟨r0, r1, h1, h2⟩ := he
    exact ⟨r0, r1, h1, hr r0 r1 w' h2⟩
def hostm_WantSend.RV (R : Int → Int → World → Prop) (v : Value) (w : World) : Prop := match v with
  | .tuple ⟨[.int .i64 r0, .int .i64 r1]⟩ => R r0 r1 w
  | _ => False
theorem hostm_WantSend.RV_elim {R : Int → Int → World → Prop} {v : Value} {w : World} (h : hostm_WantSend.RV R v w) : ∃ r0 r1, Ending.returned v = .returned (.tuple #[.int .i64 r0, .int .i64 r1]) ∧ R r0 r1 w := by
  unfold hostm_WantSend.RV at h
  split at h
  · exact ⟨_, _, rfl, h⟩
  · exact h.elim
/-- (*e2e/host.Host).Send -/
def host_Host_Send.Call (h0 : Option Addr) (sd : Int) (p_b : Option Addr) (p_l p_c : Nat) (w : World) (R : Int → Option Addr → Nat → Nat → Int → World → Prop) : Prop :=
  Calls Tryz.prog 94 #[.pointer h0, .int .i64 sd, .slice p_b p_l p_c] w fun e w' => ∃ r0 r1_b r1_l r1_c r2, e = .returned (.tuple #[.int .i64 r0, .slice r1_b r1_l r1_c, .int .i64 r2]) ∧ R r0 r1_b r1_l r1_c r2 w'
theorem host_Host_Send.Call.mono {h0 sd p_b p_l p_c} {w : World} {R R' : Int → Option Addr → Nat → Nat → Int → World → Prop} (h : host_Host_Send.Call h0 sd p_b p_l p_c w R) (hr : ∀ r0 r1_b r1_l r1_c r2 w', R r0 r1_b r1_l r1_c r2 w' → R' r0 r1_b r1_l r1_c r2 w') : host_Host_Send.Call h0 sd p_b p_l p_c w R' :=
  Calls.mono h fun e w' he => by
    obtain ⟨r0, r1_b, r1_l, r1_c, r2, h1, h2⟩ := he
    exact ⟨r0, r1_b, r1_l, r1_c, r2, h1, hr r0 r1_b r1_l r1_c r2 w' h2⟩
def host_Host_Send.RV (R : Int → Option Addr → Nat → Nat → Int → World → Prop) (v : Value) (w : World) : Prop := match v with
  | .tuple ⟨[.int .i64 r0, .slice r1_b r1_l r1_c, .int .i64 r2]⟩ => R r0 r1_b r1_l r1_c r2 w
  | _ => False
theorem host_Host_Send.RV_elim {R : Int → Option Addr → Nat → Nat → Int → World → Prop} {v : Value} {w : World} (h : host_Host_Send.RV R v w) : ∃ r0 r1_b r1_l r1_c r2, Ending.returned v = .returned (.tuple #[.int .i64 r0, .slice r1_b r1_l r1_c, .int .i64 r2]) ∧ R r0 r1_b r1_l r1_c r2 w := by
  unfold host_Host_Send.RV at h
  split at h
  · exact ⟨_, _, _, _, _, rfl, h⟩
  · exact h.elim
/-- (*e2e/hostm.Net).Took -/
def hostm_Net_Took.Call (n : Option Addr) (i k : Int) (data_b : Option Addr) (data_l data_c : Nat) (w : World) (R : Bool → World → Prop) : Prop :=
  Calls Tryz.prog 95 #[.pointer n, .int .i64 i, .int .i64 k, .slice data_b data_l data_c] w fun e w' => ∃ r, e = .returned (.bool r) ∧ R r w'
theorem hostm_Net_Took.Call.mono {n i k data_b data_l data_c} {w : World} {R R' : Bool → World → Prop} (h : hostm_Net_Took.Call n i k data_b data_l data_c w R) (hr : ∀ r w', R r w' → R' r w') : hostm_Net_Took.Call n i k data_b data_l data_c w R' :=
  Calls.mono h fun e w' he => by
    obtain ⟨r, h1, h2⟩ := he
    exact ⟨r, h1, hr r w' h2⟩
def hostm_Net_Took.RV (R : Bool → World → Prop) (v : Value) (w : World) : Prop := match v with
  | .bool r => R r w
  | _ => False
theorem hostm_Net_Took.RV_elim {R : Bool → World → Prop} {v : Value} {w : World} (h : hostm_Net_Took.RV R v w) : ∃ r, Ending.returned v = .returned (.bool r) ∧ R r w := by
  unfold hostm_Net_Took.RV at h
  split at h
  · exact ⟨_, rfl, h⟩
  · exact h.elim
/-- e2e/hostm.WantRecv -/
def hostm_WantRecv.Call (c : Option Addr) (max : Int) (w : World) (R : Int → Int → World → Prop) : Prop :=
  Calls Tryz.prog 96 #[.pointer c, .int .i64 max] w fun e w' => ∃ r0 r1, e = .returned (.tuple #[.int .i64 r0, .int .i64 r1]) ∧ R r0 r1 w'
theorem hostm_WantRecv.Call.mono {c max} {w : World} {R R' : Int → Int → World → Prop} (h : hostm_WantRecv.Call c max w R) (hr : ∀ r0 r1 w', R r0 r1 w' → R' r0 r1 w') : hostm_WantRecv.Call c max w R' :=
  Calls.mono h fun e w' he => by
    obtain ⟨r0, r1, h1, h2⟩ := he
    exact ⟨r0, r1, h1, hr r0 r1 w' h2⟩
def hostm_WantRecv.RV (R : Int → Int → World → Prop) (v : Value) (w : World) : Prop := match v with
  | .tuple ⟨[.int .i64 r0, .int .i64 r1]⟩ => R r0 r1 w
  | _ => False
theorem hostm_WantRecv.RV_elim {R : Int → Int → World → Prop} {v : Value} {w : World} (h : hostm_WantRecv.RV R v w) : ∃ r0 r1, Ending.returned v = .returned (.tuple #[.int .i64 r0, .int .i64 r1]) ∧ R r0 r1 w := by
  unfold hostm_WantRecv.RV at h
  split at h
  · exact ⟨_, _, rfl, h⟩
  · exact h.elim
/-- (*e2e/host.Host).Recv -/
def host_Host_Recv.Call (h0 : Option Addr) (sd max : Int) (w : World) (R : Option Addr → Nat → Nat → Option Addr → Nat → Nat → Int → World → Prop) : Prop :=
  Calls Tryz.prog 97 #[.pointer h0, .int .i64 sd, .int .i64 max] w fun e w' => ∃ r0_b r0_l r0_c r1_b r1_l r1_c r2, e = .returned (.tuple #[.slice r0_b r0_l r0_c, .slice r1_b r1_l r1_c, .int .i64 r2]) ∧ R r0_b r0_l r0_c r1_b r1_l r1_c r2 w'
theorem host_Host_Recv.Call.mono {h0 sd max} {w : World} {R R' : Option Addr → Nat → Nat → Option Addr → Nat → Nat → Int → World → Prop} (h : host_Host_Recv.Call h0 sd max w R) (hr : ∀ r0_b r0_l r0_c r1_b r1_l r1_c r2 w', R r0_b r0_l r0_c r1_b r1_l r1_c r2 w' → R' r0_b r0_l r0_c r1_b r1_l r1_c r2 w') : host_Host_Recv.Call h0 sd max w R' :=
  Calls.mono h fun e w' he => by
    obtain ⟨r0_b, r0_l, r0_c, r1_b, r1_l, r1_c, r2, h1, h2⟩ := he
    exact ⟨r0_b, r0_l, r0_c, r1_b, r1_l, r1_c, r2, h1, hr r0_b r0_l r0_c r1_b r1_l r1_c r2 w' h2⟩
def host_Host_Recv.RV (R : Option Addr → Nat → Nat → Option Addr → Nat → Nat → Int → World → Prop) (v : Value) (w : World) : Prop := match v with
  | .tuple ⟨[.slice r0_b r0_l r0_c, .slice r1_b r1_l r1_c, .int .i64 r2]⟩ => R r0_b r0_l r0_c r1_b r1_l r1_c r2 w
  | _ => False
theorem host_Host_Recv.RV_elim {R : Option Addr → Nat → Nat → Option Addr → Nat → Nat → Int → World → Prop} {v : Value} {w : World} (h : host_Host_Recv.RV R v w) : ∃ r0_b r0_l r0_c r1_b r1_l r1_c r2, Ending.returned v = .returned (.tuple #[.slice r0_b r0_l r0_c, .slice r1_b r1_l r1_c, .int .i64 r2]) ∧ R r0_b r0_l r0_c r1_b r1_l r1_c r2 w := by
  unfold host_Host_Recv.RV at h
  split at h
  · exact ⟨_, _, _, _, _, _, _, rfl, h⟩
  · exact h.elim
/-- (*e2e/hostlaw.World).Own -/
def hostlaw_World_Own.Call (w0 b_b : Option Addr) (b_l b_c : Nat) (w : World) (R : World → Prop) : Prop :=
  Calls Tryz.prog 98 #[.pointer w0, .slice b_b b_l b_c] w fun e w' => e = .returned (.tuple #[]) ∧ R w'
theorem hostlaw_World_Own.Call.mono {w0 b_b b_l b_c} {w : World} {R R' : World → Prop} (h : hostlaw_World_Own.Call w0 b_b b_l b_c w R) (hr : ∀ w', R w' → R'  w') : hostlaw_World_Own.Call w0 b_b b_l b_c w R' :=
  Calls.mono h fun e w' he => by
    obtain ⟨h1, h2⟩ := he
    exact ⟨h1, hr  w' h2⟩
def hostlaw_World_Own.RV (R : World → Prop) (v : Value) (w : World) : Prop := match v with
  | .tuple ⟨[]⟩ => R w
  | _ => False
theorem hostlaw_World_Own.RV_elim {R : World → Prop} {v : Value} {w : World} (h : hostlaw_World_Own.RV R v w) : Ending.returned v = .returned (.tuple #[]) ∧ R w := by
  unfold hostlaw_World_Own.RV at h
  split at h
  · exact ⟨rfl, h⟩
  · exact h.elim
/-- (*e2e/hostm.Net).EOF -/
def hostm_Net_EOF.Call (n : Option Addr) (i : Int) (w : World) (R : Bool → World → Prop) : Prop :=
  Calls Tryz.prog 99 #[.pointer n, .int .i64 i] w fun e w' => ∃ r, e = .returned (.bool r) ∧ R r w'
theorem hostm_Net_EOF.Call.mono {n i} {w : World} {R R' : Bool → World → Prop} (h : hostm_Net_EOF.Call n i w R) (hr : ∀ r w', R r w' → R' r w') : hostm_Net_EOF.Call n i w R' :=
  Calls.mono h fun e w' he => by
    obtain ⟨r, h1, h2⟩ := he
    exact ⟨r, h1, hr r w' h2⟩
def hostm_Net_EOF.RV (R : Bool → World → Prop) (v : Value) (w : World) : Prop := match v with
  | .bool r => R r w
  | _ => False
theorem hostm_Net_EOF.RV_elim {R : Bool → World → Prop} {v : Value} {w : World} (h : hostm_Net_EOF.RV R v w) : ∃ r, Ending.returned v = .returned (.bool r) ∧ R r w := by
  unfold hostm_Net_EOF.RV at h
  split at h
  · exact ⟨_, rfl, h⟩
  · exact h.elim
/-- (*e2e/hostm.Net).Read -/
def hostm_Net_Read.Call (n : Option Addr) (i : Int) (got_b : Option Addr) (got_l got_c : Nat) (w : World) (R : Bool → World → Prop) : Prop :=
  Calls Tryz.prog 100 #[.pointer n, .int .i64 i, .slice got_b got_l got_c] w fun e w' => ∃ r, e = .returned (.bool r) ∧ R r w'
theorem hostm_Net_Read.Call.mono {n i got_b got_l got_c} {w : World} {R R' : Bool → World → Prop} (h : hostm_Net_Read.Call n i got_b got_l got_c w R) (hr : ∀ r w', R r w' → R' r w') : hostm_Net_Read.Call n i got_b got_l got_c w R' :=
  Calls.mono h fun e w' he => by
    obtain ⟨r, h1, h2⟩ := he
    exact ⟨r, h1, hr r w' h2⟩
def hostm_Net_Read.RV (R : Bool → World → Prop) (v : Value) (w : World) : Prop := match v with
  | .bool r => R r w
  | _ => False
theorem hostm_Net_Read.RV_elim {R : Bool → World → Prop} {v : Value} {w : World} (h : hostm_Net_Read.RV R v w) : ∃ r, Ending.returned v = .returned (.bool r) ∧ R r w := by
  unfold hostm_Net_Read.RV at h
  split at h
  · exact ⟨_, rfl, h⟩
  · exact h.elim
/-- e2e/hostm.WantClose -/
def hostm_WantClose.Call (c : Option Addr) (w : World) (R : Int → World → Prop) : Prop :=
  Calls Tryz.prog 101 #[.pointer c] w fun e w' => ∃ r, e = .returned (.int .i64 r) ∧ R r w'
theorem hostm_WantClose.Call.mono {c} {w : World} {R R' : Int → World → Prop} (h : hostm_WantClose.Call c w R) (hr : ∀ r w', R r w' → R' r w') : hostm_WantClose.Call c w R' :=
  Calls.mono h fun e w' he => by
    obtain ⟨r, h1, h2⟩ := he
    exact ⟨r, h1, hr r w' h2⟩
def hostm_WantClose.RV (R : Int → World → Prop) (v : Value) (w : World) : Prop := match v with
  | .int .i64 r => R r w
  | _ => False
theorem hostm_WantClose.RV_elim {R : Int → World → Prop} {v : Value} {w : World} (h : hostm_WantClose.RV R v w) : ∃ r, Ending.returned v = .returned (.int .i64 r) ∧ R r w := by
  unfold hostm_WantClose.RV at h
  split at h
  · exact ⟨_, rfl, h⟩
  · exact h.elim
/-- (*e2e/host.Host).Abort -/
def host_Host_Abort.Call (h0 : Option Addr) (sd : Int) (w : World) (R : Option Addr → Nat → Nat → Int → World → Prop) : Prop :=
  Calls Tryz.prog 102 #[.pointer h0, .int .i64 sd] w fun e w' => ∃ r0_b r0_l r0_c r1, e = .returned (.tuple #[.slice r0_b r0_l r0_c, .int .i64 r1]) ∧ R r0_b r0_l r0_c r1 w'
theorem host_Host_Abort.Call.mono {h0 sd} {w : World} {R R' : Option Addr → Nat → Nat → Int → World → Prop} (h : host_Host_Abort.Call h0 sd w R) (hr : ∀ r0_b r0_l r0_c r1 w', R r0_b r0_l r0_c r1 w' → R' r0_b r0_l r0_c r1 w') : host_Host_Abort.Call h0 sd w R' :=
  Calls.mono h fun e w' he => by
    obtain ⟨r0_b, r0_l, r0_c, r1, h1, h2⟩ := he
    exact ⟨r0_b, r0_l, r0_c, r1, h1, hr r0_b r0_l r0_c r1 w' h2⟩
def host_Host_Abort.RV (R : Option Addr → Nat → Nat → Int → World → Prop) (v : Value) (w : World) : Prop := match v with
  | .tuple ⟨[.slice r0_b r0_l r0_c, .int .i64 r1]⟩ => R r0_b r0_l r0_c r1 w
  | _ => False
theorem host_Host_Abort.RV_elim {R : Option Addr → Nat → Nat → Int → World → Prop} {v : Value} {w : World} (h : host_Host_Abort.RV R v w) : ∃ r0_b r0_l r0_c r1, Ending.returned v = .returned (.tuple #[.slice r0_b r0_l r0_c, .int .i64 r1]) ∧ R r0_b r0_l r0_c r1 w := by
  unfold host_Host_Abort.RV at h
  split at h
  · exact ⟨_, _, _, _, rfl, h⟩
  · exact h.elim
/-- (*e2e/host.Host).Close -/
def host_Host_Close.Call (h0 : Option Addr) (sd : Int) (w : World) (R : Option Addr → Nat → Nat → Int → World → Prop) : Prop :=
  Calls Tryz.prog 103 #[.pointer h0, .int .i64 sd] w fun e w' => ∃ r0_b r0_l r0_c r1, e = .returned (.tuple #[.slice r0_b r0_l r0_c, .int .i64 r1]) ∧ R r0_b r0_l r0_c r1 w'
theorem host_Host_Close.Call.mono {h0 sd} {w : World} {R R' : Option Addr → Nat → Nat → Int → World → Prop} (h : host_Host_Close.Call h0 sd w R) (hr : ∀ r0_b r0_l r0_c r1 w', R r0_b r0_l r0_c r1 w' → R' r0_b r0_l r0_c r1 w') : host_Host_Close.Call h0 sd w R' :=
  Calls.mono h fun e w' he => by
    obtain ⟨r0_b, r0_l, r0_c, r1, h1, h2⟩ := he
    exact ⟨r0_b, r0_l, r0_c, r1, h1, hr r0_b r0_l r0_c r1 w' h2⟩
def host_Host_Close.RV (R : Option Addr → Nat → Nat → Int → World → Prop) (v : Value) (w : World) : Prop := match v with
  | .tuple ⟨[.slice r0_b r0_l r0_c, .int .i64 r1]⟩ => R r0_b r0_l r0_c r1 w
  | _ => False
theorem host_Host_Close.RV_elim {R : Option Addr → Nat → Nat → Int → World → Prop} {v : Value} {w : World} (h : host_Host_Close.RV R v w) : ∃ r0_b r0_l r0_c r1, Ending.returned v = .returned (.tuple #[.slice r0_b r0_l r0_c, .int .i64 r1]) ∧ R r0_b r0_l r0_c r1 w := by
  unfold host_Host_Close.RV at h
  split at h
  · exact ⟨_, _, _, _, rfl, h⟩
  · exact h.elim
/-- (*e2e/hostm.Net).ClosedBy -/
def hostm_Net_ClosedBy.Call (n : Option Addr) (i : Int) (w : World) (R : Bool → World → Prop) : Prop :=
  Calls Tryz.prog 104 #[.pointer n, .int .i64 i] w fun e w' => ∃ r, e = .returned (.bool r) ∧ R r w'
theorem hostm_Net_ClosedBy.Call.mono {n i} {w : World} {R R' : Bool → World → Prop} (h : hostm_Net_ClosedBy.Call n i w R) (hr : ∀ r w', R r w' → R' r w') : hostm_Net_ClosedBy.Call n i w R' :=
  Calls.mono h fun e w' he => by
    obtain ⟨r, h1, h2⟩ := he
    exact ⟨r, h1, hr r w' h2⟩
def hostm_Net_ClosedBy.RV (R : Bool → World → Prop) (v : Value) (w : World) : Prop := match v with
  | .bool r => R r w
  | _ => False
theorem hostm_Net_ClosedBy.RV_elim {R : Bool → World → Prop} {v : Value} {w : World} (h : hostm_Net_ClosedBy.RV R v w) : ∃ r, Ending.returned v = .returned (.bool r) ∧ R r w := by
  unfold hostm_Net_ClosedBy.RV at h
  split at h
  · exact ⟨_, rfl, h⟩
  · exact h.elim
/-- (*e2e/sock.Table).find -/
def sock_Table_find.Call (t : Option Addr) (sd : Int) (w : World) (R : Int → World → Prop) : Prop :=
  Calls Tryz.prog 105 #[.pointer t, .int .i64 sd] w fun e w' => ∃ r, e = .returned (.int .i64 r) ∧ R r w'
theorem sock_Table_find.Call.mono {t sd} {w : World} {R R' : Int → World → Prop} (h : sock_Table_find.Call t sd w R) (hr : ∀ r w', R r w' → R' r w') : sock_Table_find.Call t sd w R' :=
  Calls.mono h fun e w' he => by
    obtain ⟨r, h1, h2⟩ := he
    exact ⟨r, h1, hr r w' h2⟩
def sock_Table_find.RV (R : Int → World → Prop) (v : Value) (w : World) : Prop := match v with
  | .int .i64 r => R r w
  | _ => False
theorem sock_Table_find.RV_elim {R : Int → World → Prop} {v : Value} {w : World} (h : sock_Table_find.RV R v w) : ∃ r, Ending.returned v = .returned (.int .i64 r) ∧ R r w := by
  unfold sock_Table_find.RV at h
  split at h
  · exact ⟨_, rfl, h⟩
  · exact h.elim
/-- (*e2e/conn.Conn).sndUna -/
def conn_Conn_sndUna.Call (c : Option Addr) (w : World) (R : Int → World → Prop) : Prop :=
  Calls Tryz.prog 106 #[.pointer c] w fun e w' => ∃ r, e = .returned (.int .i64 r) ∧ R r w'
theorem conn_Conn_sndUna.Call.mono {c} {w : World} {R R' : Int → World → Prop} (h : conn_Conn_sndUna.Call c w R) (hr : ∀ r w', R r w' → R' r w') : conn_Conn_sndUna.Call c w R' :=
  Calls.mono h fun e w' he => by
    obtain ⟨r, h1, h2⟩ := he
    exact ⟨r, h1, hr r w' h2⟩
def conn_Conn_sndUna.RV (R : Int → World → Prop) (v : Value) (w : World) : Prop := match v with
  | .int .i64 r => R r w
  | _ => False
theorem conn_Conn_sndUna.RV_elim {R : Int → World → Prop} {v : Value} {w : World} (h : conn_Conn_sndUna.RV R v w) : ∃ r, Ending.returned v = .returned (.int .i64 r) ∧ R r w := by
  unfold conn_Conn_sndUna.RV at h
  split at h
  · exact ⟨_, rfl, h⟩
  · exact h.elim
/-- (*e2e/conn.Conn).sndNxt -/
def conn_Conn_sndNxt.Call (c : Option Addr) (w : World) (R : Int → World → Prop) : Prop :=
  Calls Tryz.prog 107 #[.pointer c] w fun e w' => ∃ r, e = .returned (.int .i64 r) ∧ R r w'
theorem conn_Conn_sndNxt.Call.mono {c} {w : World} {R R' : Int → World → Prop} (h : conn_Conn_sndNxt.Call c w R) (hr : ∀ r w', R r w' → R' r w') : conn_Conn_sndNxt.Call c w R' :=
  Calls.mono h fun e w' he => by
    obtain ⟨r, h1, h2⟩ := he
    exact ⟨r, h1, hr r w' h2⟩
def conn_Conn_sndNxt.RV (R : Int → World → Prop) (v : Value) (w : World) : Prop := match v with
  | .int .i64 r => R r w
  | _ => False
theorem conn_Conn_sndNxt.RV_elim {R : Int → World → Prop} {v : Value} {w : World} (h : conn_Conn_sndNxt.RV R v w) : ∃ r, Ending.returned v = .returned (.int .i64 r) ∧ R r w := by
  unfold conn_Conn_sndNxt.RV at h
  split at h
  · exact ⟨_, rfl, h⟩
  · exact h.elim
/-- (*e2e/conn.Conn).rcvNxt -/
def conn_Conn_rcvNxt.Call (c : Option Addr) (w : World) (R : Int → World → Prop) : Prop :=
  Calls Tryz.prog 108 #[.pointer c] w fun e w' => ∃ r, e = .returned (.int .i64 r) ∧ R r w'
theorem conn_Conn_rcvNxt.Call.mono {c} {w : World} {R R' : Int → World → Prop} (h : conn_Conn_rcvNxt.Call c w R) (hr : ∀ r w', R r w' → R' r w') : conn_Conn_rcvNxt.Call c w R' :=
  Calls.mono h fun e w' he => by
    obtain ⟨r, h1, h2⟩ := he
    exact ⟨r, h1, hr r w' h2⟩
def conn_Conn_rcvNxt.RV (R : Int → World → Prop) (v : Value) (w : World) : Prop := match v with
  | .int .i64 r => R r w
  | _ => False
theorem conn_Conn_rcvNxt.RV_elim {R : Int → World → Prop} {v : Value} {w : World} (h : conn_Conn_rcvNxt.RV R v w) : ∃ r, Ending.returned v = .returned (.int .i64 r) ∧ R r w := by
  unfold conn_Conn_rcvNxt.RV at h
  split at h
  · exact ⟨_, rfl, h⟩
  · exact h.elim
/-- (*e2e/seg.SendBuf).Len -/
def seg_SendBuf_Len.Call (b : Option Addr) (w : World) (R : Int → World → Prop) : Prop :=
  Calls Tryz.prog 109 #[.pointer b] w fun e w' => ∃ r, e = .returned (.int .i64 r) ∧ R r w'
theorem seg_SendBuf_Len.Call.mono {b} {w : World} {R R' : Int → World → Prop} (h : seg_SendBuf_Len.Call b w R) (hr : ∀ r w', R r w' → R' r w') : seg_SendBuf_Len.Call b w R' :=
  Calls.mono h fun e w' he => by
    obtain ⟨r, h1, h2⟩ := he
    exact ⟨r, h1, hr r w' h2⟩
def seg_SendBuf_Len.RV (R : Int → World → Prop) (v : Value) (w : World) : Prop := match v with
  | .int .i64 r => R r w
  | _ => False
theorem seg_SendBuf_Len.RV_elim {R : Int → World → Prop} {v : Value} {w : World} (h : seg_SendBuf_Len.RV R v w) : ∃ r, Ending.returned v = .returned (.int .i64 r) ∧ R r w := by
  unfold seg_SendBuf_Len.RV at h
  split at h
  · exact ⟨_, rfl, h⟩
  · exact h.elim
/-- (*e2e/seg.SendBuf).Unsent -/
def seg_SendBuf_Unsent.Call (b : Option Addr) (w : World) (R : Int → World → Prop) : Prop :=
  Calls Tryz.prog 110 #[.pointer b] w fun e w' => ∃ r, e = .returned (.int .i64 r) ∧ R r w'
theorem seg_SendBuf_Unsent.Call.mono {b} {w : World} {R R' : Int → World → Prop} (h : seg_SendBuf_Unsent.Call b w R) (hr : ∀ r w', R r w' → R' r w') : seg_SendBuf_Unsent.Call b w R' :=
  Calls.mono h fun e w' he => by
    obtain ⟨r, h1, h2⟩ := he
    exact ⟨r, h1, hr r w' h2⟩
def seg_SendBuf_Unsent.RV (R : Int → World → Prop) (v : Value) (w : World) : Prop := match v with
  | .int .i64 r => R r w
  | _ => False
theorem seg_SendBuf_Unsent.RV_elim {R : Int → World → Prop} {v : Value} {w : World} (h : seg_SendBuf_Unsent.RV R v w) : ∃ r, Ending.returned v = .returned (.int .i64 r) ∧ R r w := by
  unfold seg_SendBuf_Unsent.RV at h
  split at h
  · exact ⟨_, rfl, h⟩
  · exact h.elim
/-- (*e2e/seg.RecvBuf).Avail -/
def seg_RecvBuf_Avail.Call (b : Option Addr) (w : World) (R : Int → World → Prop) : Prop :=
  Calls Tryz.prog 111 #[.pointer b] w fun e w' => ∃ r, e = .returned (.int .i64 r) ∧ R r w'
theorem seg_RecvBuf_Avail.Call.mono {b} {w : World} {R R' : Int → World → Prop} (h : seg_RecvBuf_Avail.Call b w R) (hr : ∀ r w', R r w' → R' r w') : seg_RecvBuf_Avail.Call b w R' :=
  Calls.mono h fun e w' he => by
    obtain ⟨r, h1, h2⟩ := he
    exact ⟨r, h1, hr r w' h2⟩
def seg_RecvBuf_Avail.RV (R : Int → World → Prop) (v : Value) (w : World) : Prop := match v with
  | .int .i64 r => R r w
  | _ => False
theorem seg_RecvBuf_Avail.RV_elim {R : Int → World → Prop} {v : Value} {w : World} (h : seg_RecvBuf_Avail.RV R v w) : ∃ r, Ending.returned v = .returned (.int .i64 r) ∧ R r w := by
  unfold seg_RecvBuf_Avail.RV at h
  split at h
  · exact ⟨_, rfl, h⟩
  · exact h.elim
/-- (*e2e/seg.RecvBuf).Held -/
def seg_RecvBuf_Held.Call (b : Option Addr) (w : World) (R : Int → World → Prop) : Prop :=
  Calls Tryz.prog 112 #[.pointer b] w fun e w' => ∃ r, e = .returned (.int .i64 r) ∧ R r w'
theorem seg_RecvBuf_Held.Call.mono {b} {w : World} {R R' : Int → World → Prop} (h : seg_RecvBuf_Held.Call b w R) (hr : ∀ r w', R r w' → R' r w') : seg_RecvBuf_Held.Call b w R' :=
  Calls.mono h fun e w' he => by
    obtain ⟨r, h1, h2⟩ := he
    exact ⟨r, h1, hr r w' h2⟩
def seg_RecvBuf_Held.RV (R : Int → World → Prop) (v : Value) (w : World) : Prop := match v with
  | .int .i64 r => R r w
  | _ => False
theorem seg_RecvBuf_Held.RV_elim {R : Int → World → Prop} {v : Value} {w : World} (h : seg_RecvBuf_Held.RV R v w) : ∃ r, Ending.returned v = .returned (.int .i64 r) ∧ R r w := by
  unfold seg_RecvBuf_Held.RV at h
  split at h
  · exact ⟨_, rfl, h⟩
  · exact h.elim
/-- (*e2e/frame.Link).Decode -/
def frame_Link_Decode.Call (l raw_b : Option Addr) (raw_l raw_c : Nat) (w : World) (R : Int → Int → Int → Option Addr → Nat → Nat → Int → World → Prop) : Prop :=
  Calls Tryz.prog 113 #[.pointer l, .slice raw_b raw_l raw_c] w fun e w' => ∃ r0_0 r0_1 r0_2 r0_3_b r0_3_l r0_3_c r1, e = .returned (.tuple #[.agg #[.int .i64 r0_0, .int .i64 r0_1, .int .i64 r0_2, .slice r0_3_b r0_3_l r0_3_c], .int .i64 r1]) ∧ R r0_0 r0_1 r0_2 r0_3_b r0_3_l r0_3_c r1 w'
theorem frame_Link_Decode.Call.mono {l raw_b raw_l raw_c} {w : World} {R R' : Int → Int → Int → Option Addr → Nat → Nat → Int → World → Prop} (h : frame_Link_Decode.Call l raw_b raw_l raw_c w R) (hr : ∀ r0_0 r0_1 r0_2 r0_3_b r0_3_l r0_3_c r1 w', R r0_0 r0_1 r0_2 r0_3_b r0_3_l r0_3_c r1 w' → R' r0_0 r0_1 r0_2 r0_3_b r0_3_l r0_3_c r1 w') : frame_Link_Decode.Call l raw_b raw_l raw_c w R' :=
  Calls.mono h fun e w' he => by
    obtain ⟨r0_0, r0_1, r0_2, r0_3_b, r0_3_l, r0_3_c, r1, h1, h2⟩ := he
    exact ⟨r0_0, r0_1, r0_2, r0_3_b, r0_3_l, r0_3_c, r1, h1, hr r0_0 r0_1 r0_2 r0_3_b r0_3_l r0_3_c r1 w' h2⟩
def frame_Link_Decode.RV (R : Int → Int → Int → Option Addr → Nat → Nat → Int → World → Prop) (v : Value) (w : World) : Prop := match v with
  | .tuple ⟨[.agg ⟨[.int .i64 r0_0, .int .i64 r0_1, .int .i64 r0_2, .slice r0_3_b r0_3_l r0_3_c]⟩, .int .i64 r1]⟩ => R r0_0 r0_1 r0_2 r0_3_b r0_3_l r0_3_c r1 w
  | _ => False
theorem frame_Link_Decode.RV_elim {R : Int → Int → Int → Option Addr → Nat → Nat → Int → World → Prop} {v : Value} {w : World} (h : frame_Link_Decode.RV R v w) : ∃ r0_0 r0_1 r0_2 r0_3_b r0_3_l r0_3_c r1, Ending.returned v = .returned (.tuple #[.agg #[.int .i64 r0_0, .int .i64 r0_1, .int .i64 r0_2, .slice r0_3_b r0_3_l r0_3_c], .int .i64 r1]) ∧ R r0_0 r0_1 r0_2 r0_3_b r0_3_l r0_3_c r1 w := by
  unfold frame_Link_Decode.RV at h
  split at h
  · exact ⟨_, _, _, _, _, _, _, rfl, h⟩
  · exact h.elim
/-- (*e2e/ip.IP).Input -/
def ip_IP_Input.Call (p pkt_b : Option Addr) (pkt_l pkt_c : Nat) (w : World) (R : Int → Int → Int → Option Addr → Nat → Nat → Int → World → Prop) : Prop :=
  Calls Tryz.prog 114 #[.pointer p, .slice pkt_b pkt_l pkt_c] w fun e w' => ∃ r0_0 r0_1 r0_2 r0_3_b r0_3_l r0_3_c r1, e = .returned (.tuple #[.agg #[.int .i64 r0_0, .int .i64 r0_1, .int .i64 r0_2, .slice r0_3_b r0_3_l r0_3_c], .int .i64 r1]) ∧ R r0_0 r0_1 r0_2 r0_3_b r0_3_l r0_3_c r1 w'
theorem ip_IP_Input.Call.mono {p pkt_b pkt_l pkt_c} {w : World} {R R' : Int → Int → Int → Option Addr → Nat → Nat → Int → World → Prop} (h : ip_IP_Input.Call p pkt_b pkt_l pkt_c w R) (hr : ∀ r0_0 r0_1 r0_2 r0_3_b r0_3_l r0_3_c r1 w', R r0_0 r0_1 r0_2 r0_3_b r0_3_l r0_3_c r1 w' → R' r0_0 r0_1 r0_2 r0_3_b r0_3_l r0_3_c r1 w') : ip_IP_Input.Call p pkt_b pkt_l pkt_c w R' :=
  Calls.mono h fun e w' he => by
    obtain ⟨r0_0, r0_1, r0_2, r0_3_b, r0_3_l, r0_3_c, r1, h1, h2⟩ := he
    exact ⟨r0_0, r0_1, r0_2, r0_3_b, r0_3_l, r0_3_c, r1, h1, hr r0_0 r0_1 r0_2 r0_3_b r0_3_l r0_3_c r1 w' h2⟩
def ip_IP_Input.RV (R : Int → Int → Int → Option Addr → Nat → Nat → Int → World → Prop) (v : Value) (w : World) : Prop := match v with
  | .tuple ⟨[.agg ⟨[.int .i64 r0_0, .int .i64 r0_1, .int .i64 r0_2, .slice r0_3_b r0_3_l r0_3_c]⟩, .int .i64 r1]⟩ => R r0_0 r0_1 r0_2 r0_3_b r0_3_l r0_3_c r1 w
  | _ => False
theorem ip_IP_Input.RV_elim {R : Int → Int → Int → Option Addr → Nat → Nat → Int → World → Prop} {v : Value} {w : World} (h : ip_IP_Input.RV R v w) : ∃ r0_0 r0_1 r0_2 r0_3_b r0_3_l r0_3_c r1, Ending.returned v = .returned (.tuple #[.agg #[.int .i64 r0_0, .int .i64 r0_1, .int .i64 r0_2, .slice r0_3_b r0_3_l r0_3_c], .int .i64 r1]) ∧ R r0_0 r0_1 r0_2 r0_3_b r0_3_l r0_3_c r1 w := by
  unfold ip_IP_Input.RV at h
  split at h
  · exact ⟨_, _, _, _, _, _, _, rfl, h⟩
  · exact h.elim
/-- e2e/seg.Decode -/
def seg_Decode.Call (src dst : Int) (raw_b : Option Addr) (raw_l raw_c : Nat) (w : World) (R : Int → Int → Int → Int → Int → Int → Option Addr → Nat → Nat → Int → World → Prop) : Prop :=
  Calls Tryz.prog 115 #[.int .i64 src, .int .i64 dst, .slice raw_b raw_l raw_c] w fun e w' => ∃ r0_0 r0_1 r0_2 r0_3 r0_4 r0_5 r0_6_b r0_6_l r0_6_c r1, e = .returned (.tuple #[.agg #[.int .i64 r0_0, .int .i64 r0_1, .int .i64 r0_2, .int .i64 r0_3, .int .i64 r0_4, .int .i64 r0_5, .slice r0_6_b r0_6_l r0_6_c], .int .i64 r1]) ∧ R r0_0 r0_1 r0_2 r0_3 r0_4 r0_5 r0_6_b r0_6_l r0_6_c r1 w'
theorem seg_Decode.Call.mono {src dst raw_b raw_l raw_c} {w : World} {R R' : Int → Int → Int → Int → Int → Int → Option Addr → Nat → Nat → Int → World → Prop} (h : seg_Decode.Call src dst raw_b raw_l raw_c w R) (hr : ∀ r0_0 r0_1 r0_2 r0_3 r0_4 r0_5 r0_6_b r0_6_l r0_6_c r1 w', R r0_0 r0_1 r0_2 r0_3 r0_4 r0_5 r0_6_b r0_6_l r0_6_c r1 w' → R' r0_0 r0_1 r0_2 r0_3 r0_4 r0_5 r0_6_b r0_6_l r0_6_c r1 w') : seg_Decode.Call src dst raw_b raw_l raw_c w R' :=
  Calls.mono h fun e w' he => by
    obtain ⟨r0_0, r0_1, r0_2, r0_3, r0_4, r0_5, r0_6_b, r0_6_l, r0_6_c, r1, h1, h2⟩ := he
    exact ⟨r0_0, r0_1, r0_2, r0_3, r0_4, r0_5, r0_6_b, r0_6_l, r0_6_c, r1, h1, hr r0_0 r0_1 r0_2 r0_3 r0_4 r0_5 r0_6_b r0_6_l r0_6_c r1 w' h2⟩
def seg_Decode.RV (R : Int → Int → Int → Int → Int → Int → Option Addr → Nat → Nat → Int → World → Prop) (v : Value) (w : World) : Prop := match v with
  | .tuple ⟨[.agg ⟨[.int .i64 r0_0, .int .i64 r0_1, .int .i64 r0_2, .int .i64 r0_3, .int .i64 r0_4, .int .i64 r0_5, .slice r0_6_b r0_6_l r0_6_c]⟩, .int .i64 r1]⟩ => R r0_0 r0_1 r0_2 r0_3 r0_4 r0_5 r0_6_b r0_6_l r0_6_c r1 w
  | _ => False
theorem seg_Decode.RV_elim {R : Int → Int → Int → Int → Int → Int → Option Addr → Nat → Nat → Int → World → Prop} {v : Value} {w : World} (h : seg_Decode.RV R v w) : ∃ r0_0 r0_1 r0_2 r0_3 r0_4 r0_5 r0_6_b r0_6_l r0_6_c r1, Ending.returned v = .returned (.tuple #[.agg #[.int .i64 r0_0, .int .i64 r0_1, .int .i64 r0_2, .int .i64 r0_3, .int .i64 r0_4, .int .i64 r0_5, .slice r0_6_b r0_6_l r0_6_c], .int .i64 r1]) ∧ R r0_0 r0_1 r0_2 r0_3 r0_4 r0_5 r0_6_b r0_6_l r0_6_c r1 w := by
  unfold seg_Decode.RV at h
  split at h
  · exact ⟨_, _, _, _, _, _, _, _, _, _, rfl, h⟩
  · exact h.elim
/-- (*e2e/sock.Table).Lookup -/
def sock_Table_Lookup.Call (t : Option Addr) (lport rhost rport : Int) (w : World) (R : Int → World → Prop) : Prop :=
  Calls Tryz.prog 116 #[.pointer t, .int .i64 lport, .int .i64 rhost, .int .i64 rport] w fun e w' => ∃ r, e = .returned (.int .i64 r) ∧ R r w'
theorem sock_Table_Lookup.Call.mono {t lport rhost rport} {w : World} {R R' : Int → World → Prop} (h : sock_Table_Lookup.Call t lport rhost rport w R) (hr : ∀ r w', R r w' → R' r w') : sock_Table_Lookup.Call t lport rhost rport w R' :=
  Calls.mono h fun e w' he => by
    obtain ⟨r, h1, h2⟩ := he
    exact ⟨r, h1, hr r w' h2⟩
def sock_Table_Lookup.RV (R : Int → World → Prop) (v : Value) (w : World) : Prop := match v with
  | .int .i64 r => R r w
  | _ => False
theorem sock_Table_Lookup.RV_elim {R : Int → World → Prop} {v : Value} {w : World} (h : sock_Table_Lookup.RV R v w) : ∃ r, Ending.returned v = .returned (.int .i64 r) ∧ R r w := by
  unfold sock_Table_Lookup.RV at h
  split at h
  · exact ⟨_, rfl, h⟩
  · exact h.elim
/-- (*e2e/host.Host).toRow -/
def host_Host_toRow.Call (h0 out_b : Option Addr) (out_l out_c : Nat) (sd s_0 s_1 s_2 s_3 s_4 s_5 : Int) (s_6_b : Option Addr) (s_6_l s_6_c : Nat) (w : World) (R : Option Addr → Nat → Nat → World → Prop) : Prop :=
  Calls Tryz.prog 117 #[.pointer h0, .slice out_b out_l out_c, .int .i64 sd, .agg #[.int .i64 s_0, .int .i64 s_1, .int .i64 s_2, .int .i64 s_3, .int .i64 s_4, .int .i64 s_5, .slice s_6_b s_6_l s_6_c]] w fun e w' => ∃ r_b r_l r_c, e = .returned (.slice r_b r_l r_c) ∧ R r_b r_l r_c w'
theorem host_Host_toRow.Call.mono {h0 out_b out_l out_c sd s_0 s_1 s_2 s_3 s_4 s_5 s_6_b s_6_l s_6_c} {w : World} {R R' : Option Addr → Nat → Nat → World → Prop} (h : host_Host_toRow.Call h0 out_b out_l out_c sd s_0 s_1 s_2 s_3 s_4 s_5 s_6_b s_6_l s_6_c w R) (hr : ∀ r_b r_l r_c w', R r_b r_l r_c w' → R' r_b r_l r_c w') : host_Host_toRow.Call h0 out_b out_l out_c sd s_0 s_1 s_2 s_3 s_4 s_5 s_6_b s_6_l s_6_c w R' :=
  Calls.mono h fun e w' he => by
    obtain ⟨r_b, r_l, r_c, h1, h2⟩ := he
    exact ⟨r_b, r_l, r_c, h1, hr r_b r_l r_c w' h2⟩
def host_Host_toRow.RV (R : Option Addr → Nat → Nat → World → Prop) (v : Value) (w : World) : Prop := match v with
  | .slice r_b r_l r_c => R r_b r_l r_c w
  | _ => False
theorem host_Host_toRow.RV_elim {R : Option Addr → Nat → Nat → World → Prop} {v : Value} {w : World} (h : host_Host_toRow.RV R v w) : ∃ r_b r_l r_c, Ending.returned v = .returned (.slice r_b r_l r_c) ∧ R r_b r_l r_c w := by
  unfold host_Host_toRow.RV at h
  split at h
  · exact ⟨_, _, _, rfl, h⟩
  · exact h.elim
/-- (*e2e/sock.Table).Listener -/
def sock_Table_Listener.Call (t : Option Addr) (lport : Int) (w : World) (R : Int → World → Prop) : Prop :=
  Calls Tryz.prog 118 #[.pointer t, .int .i64 lport] w fun e w' => ∃ r, e = .returned (.int .i64 r) ∧ R r w'
theorem sock_Table_Listener.Call.mono {t lport} {w : World} {R R' : Int → World → Prop} (h : sock_Table_Listener.Call t lport w R) (hr : ∀ r w', R r w' → R' r w') : sock_Table_Listener.Call t lport w R' :=
  Calls.mono h fun e w' he => by
    obtain ⟨r, h1, h2⟩ := he
    exact ⟨r, h1, hr r w' h2⟩
def sock_Table_Listener.RV (R : Int → World → Prop) (v : Value) (w : World) : Prop := match v with
  | .int .i64 r => R r w
  | _ => False
theorem sock_Table_Listener.RV_elim {R : Int → World → Prop} {v : Value} {w : World} (h : sock_Table_Listener.RV R v w) : ∃ r, Ending.returned v = .returned (.int .i64 r) ∧ R r w := by
  unfold sock_Table_Listener.RV at h
  split at h
  · exact ⟨_, rfl, h⟩
  · exact h.elim
/-- (*e2e/host.Host).toListener -/
def host_Host_toListener.Call (h0 out_b : Option Addr) (out_l out_c : Nat) (src s_0 s_1 s_2 s_3 s_4 s_5 : Int) (s_6_b : Option Addr) (s_6_l s_6_c : Nat) (w : World) (R : Option Addr → Nat → Nat → World → Prop) : Prop :=
  Calls Tryz.prog 119 #[.pointer h0, .slice out_b out_l out_c, .int .i64 src, .agg #[.int .i64 s_0, .int .i64 s_1, .int .i64 s_2, .int .i64 s_3, .int .i64 s_4, .int .i64 s_5, .slice s_6_b s_6_l s_6_c]] w fun e w' => ∃ r_b r_l r_c, e = .returned (.slice r_b r_l r_c) ∧ R r_b r_l r_c w'
theorem host_Host_toListener.Call.mono {h0 out_b out_l out_c src s_0 s_1 s_2 s_3 s_4 s_5 s_6_b s_6_l s_6_c} {w : World} {R R' : Option Addr → Nat → Nat → World → Prop} (h : host_Host_toListener.Call h0 out_b out_l out_c src s_0 s_1 s_2 s_3 s_4 s_5 s_6_b s_6_l s_6_c w R) (hr : ∀ r_b r_l r_c w', R r_b r_l r_c w' → R' r_b r_l r_c w') : host_Host_toListener.Call h0 out_b out_l out_c src s_0 s_1 s_2 s_3 s_4 s_5 s_6_b s_6_l s_6_c w R' :=
  Calls.mono h fun e w' he => by
    obtain ⟨r_b, r_l, r_c, h1, h2⟩ := he
    exact ⟨r_b, r_l, r_c, h1, hr r_b r_l r_c w' h2⟩
def host_Host_toListener.RV (R : Option Addr → Nat → Nat → World → Prop) (v : Value) (w : World) : Prop := match v with
  | .slice r_b r_l r_c => R r_b r_l r_c w
  | _ => False
theorem host_Host_toListener.RV_elim {R : Option Addr → Nat → Nat → World → Prop} {v : Value} {w : World} (h : host_Host_toListener.RV R v w) : ∃ r_b r_l r_c, Ending.returned v = .returned (.slice r_b r_l r_c) ∧ R r_b r_l r_c w := by
  unfold host_Host_toListener.RV at h
  split at h
  · exact ⟨_, _, _, rfl, h⟩
  · exact h.elim
/-- e2e/host.nobody -/
def host_nobody.Call (s_0 s_1 s_2 s_3 s_4 s_5 : Int) (s_6_b : Option Addr) (s_6_l s_6_c : Nat) (w : World) (R : Int → Int → Int → Int → Int → Int → Option Addr → Nat → Nat → World → Prop) : Prop :=
  Calls Tryz.prog 120 #[.agg #[.int .i64 s_0, .int .i64 s_1, .int .i64 s_2, .int .i64 s_3, .int .i64 s_4, .int .i64 s_5, .slice s_6_b s_6_l s_6_c]] w fun e w' => ∃ r_0 r_1 r_2 r_3 r_4 r_5 r_6_b r_6_l r_6_c, e = .returned (.agg #[.int .i64 r_0, .int .i64 r_1, .int .i64 r_2, .int .i64 r_3, .int .i64 r_4, .int .i64 r_5, .slice r_6_b r_6_l r_6_c]) ∧ R r_0 r_1 r_2 r_3 r_4 r_5 r_6_b r_6_l r_6_c w'
theorem host_nobody.Call.mono {s_0 s_1 s_2 s_3 s_4 s_5 s_6_b s_6_l s_6_c} {w : World} {R R' : Int → Int → Int → Int → Int → Int → Option Addr → Nat → Nat → World → Prop} (h : host_nobody.Call s_0 s_1 s_2 s_3 s_4 s_5 s_6_b s_6_l s_6_c w R) (hr : ∀ r_0 r_1 r_2 r_3 r_4 r_5 r_6_b r_6_l r_6_c w', R r_0 r_1 r_2 r_3 r_4 r_5 r_6_b r_6_l r_6_c w' → R' r_0 r_1 r_2 r_3 r_4 r_5 r_6_b r_6_l r_6_c w') : host_nobody.Call s_0 s_1 s_2 s_3 s_4 s_5 s_6_b s_6_l s_6_c w R' :=
  Calls.mono h fun e w' he => by
    obtain ⟨r_0, r_1, r_2, r_3, r_4, r_5, r_6_b, r_6_l, r_6_c, h1, h2⟩ := he
    exact ⟨r_0, r_1, r_2, r_3, r_4, r_5, r_6_b, r_6_l, r_6_c, h1, hr r_0 r_1 r_2 r_3 r_4 r_5 r_6_b r_6_l r_6_c w' h2⟩
def host_nobody.RV (R : Int → Int → Int → Int → Int → Int → Option Addr → Nat → Nat → World → Prop) (v : Value) (w : World) : Prop := match v with
  | .agg ⟨[.int .i64 r_0, .int .i64 r_1, .int .i64 r_2, .int .i64 r_3, .int .i64 r_4, .int .i64 r_5, .slice r_6_b r_6_l r_6_c]⟩ => R r_0 r_1 r_2 r_3 r_4 r_5 r_6_b r_6_l r_6_c w
  | _ => False
theorem host_nobody.RV_elim {R : Int → Int → Int → Int → Int → Int → Option Addr → Nat → Nat → World → Prop} {v : Value} {w : World} (h : host_nobody.RV R v w) : ∃ r_0 r_1 r_2 r_3 r_4 r_5 r_6_b r_6_l r_6_c, Ending.returned v = .returned (.agg #[.int .i64 r_0, .int .i64 r_1, .int .i64 r_2, .int .i64 r_3, .int .i64 r_4, .int .i64 r_5, .slice r_6_b r_6_l r_6_c]) ∧ R r_0 r_1 r_2 r_3 r_4 r_5 r_6_b r_6_l r_6_c w := by
  unfold host_nobody.RV at h
  split at h
  · exact ⟨_, _, _, _, _, _, _, _, _, rfl, h⟩
  · exact h.elim
/-- (*e2e/host.Host).send -/
def host_Host_send.Call (h0 out_b : Option Addr) (out_l out_c : Nat) (dst s_0 s_1 s_2 s_3 s_4 s_5 : Int) (s_6_b : Option Addr) (s_6_l s_6_c : Nat) (w : World) (R : Option Addr → Nat → Nat → World → Prop) : Prop :=
  Calls Tryz.prog 121 #[.pointer h0, .slice out_b out_l out_c, .int .i64 dst, .agg #[.int .i64 s_0, .int .i64 s_1, .int .i64 s_2, .int .i64 s_3, .int .i64 s_4, .int .i64 s_5, .slice s_6_b s_6_l s_6_c]] w fun e w' => ∃ r_b r_l r_c, e = .returned (.slice r_b r_l r_c) ∧ R r_b r_l r_c w'
theorem host_Host_send.Call.mono {h0 out_b out_l out_c dst s_0 s_1 s_2 s_3 s_4 s_5 s_6_b s_6_l s_6_c} {w : World} {R R' : Option Addr → Nat → Nat → World → Prop} (h : host_Host_send.Call h0 out_b out_l out_c dst s_0 s_1 s_2 s_3 s_4 s_5 s_6_b s_6_l s_6_c w R) (hr : ∀ r_b r_l r_c w', R r_b r_l r_c w' → R' r_b r_l r_c w') : host_Host_send.Call h0 out_b out_l out_c dst s_0 s_1 s_2 s_3 s_4 s_5 s_6_b s_6_l s_6_c w R' :=
  Calls.mono h fun e w' he => by
    obtain ⟨r_b, r_l, r_c, h1, h2⟩ := he
    exact ⟨r_b, r_l, r_c, h1, hr r_b r_l r_c w' h2⟩
def host_Host_send.RV (R : Option Addr → Nat → Nat → World → Prop) (v : Value) (w : World) : Prop := match v with
  | .slice r_b r_l r_c => R r_b r_l r_c w
  | _ => False
theorem host_Host_send.RV_elim {R : Option Addr → Nat → Nat → World → Prop} {v : Value} {w : World} (h : host_Host_send.RV R v w) : ∃ r_b r_l r_c, Ending.returned v = .returned (.slice r_b r_l r_c) ∧ R r_b r_l r_c w := by
  unfold host_Host_send.RV at h
  split at h
  · exact ⟨_, _, _, rfl, h⟩
  · exact h.elim
/-- e2e/hostm.FirstFragment -/
def hostm_FirstFragment.Call (raw_b : Option Addr) (raw_l raw_c : Nat) (w : World) (R : Bool → World → Prop) : Prop :=
  Calls Tryz.prog 122 #[.slice raw_b raw_l raw_c] w fun e w' => ∃ r, e = .returned (.bool r) ∧ R r w'
theorem hostm_FirstFragment.Call.mono {raw_b raw_l raw_c} {w : World} {R R' : Bool → World → Prop} (h : hostm_FirstFragment.Call raw_b raw_l raw_c w R) (hr : ∀ r w', R r w' → R' r w') : hostm_FirstFragment.Call raw_b raw_l raw_c w R' :=
  Calls.mono h fun e w' he => by
    obtain ⟨r, h1, h2⟩ := he
    exact ⟨r, h1, hr r w' h2⟩
def hostm_FirstFragment.RV (R : Bool → World → Prop) (v : Value) (w : World) : Prop := match v with
  | .bool r => R r w
  | _ => False
theorem hostm_FirstFragment.RV_elim {R : Bool → World → Prop} {v : Value} {w : World} (h : hostm_FirstFragment.RV R v w) : ∃ r, Ending.returned v = .returned (.bool r) ∧ R r w := by
  unfold hostm_FirstFragment.RV at h
  split at h
  · exact ⟨_, rfl, h⟩
  · exact h.elim
/-- (*e2e/wirem.Wire).Put -/
def wirem_Wire_Put.Call (w0 raw_b : Option Addr) (raw_l raw_c : Nat) (w : World) (R : Bool → World → Prop) : Prop :=
  Calls Tryz.prog 123 #[.pointer w0, .slice raw_b raw_l raw_c] w fun e w' => ∃ r, e = .returned (.bool r) ∧ R r w'
theorem wirem_Wire_Put.Call.mono {w0 raw_b raw_l raw_c} {w : World} {R R' : Bool → World → Prop} (h : wirem_Wire_Put.Call w0 raw_b raw_l raw_c w R) (hr : ∀ r w', R r w' → R' r w') : wirem_Wire_Put.Call w0 raw_b raw_l raw_c w R' :=
  Calls.mono h fun e w' he => by
    obtain ⟨r, h1, h2⟩ := he
    exact ⟨r, h1, hr r w' h2⟩
def wirem_Wire_Put.RV (R : Bool → World → Prop) (v : Value) (w : World) : Prop := match v with
  | .bool r => R r w
  | _ => False
theorem wirem_Wire_Put.RV_elim {R : Bool → World → Prop} {v : Value} {w : World} (h : wirem_Wire_Put.RV R v w) : ∃ r, Ending.returned v = .returned (.bool r) ∧ R r w := by
  unfold wirem_Wire_Put.RV at h
  split at h
  · exact ⟨_, rfl, h⟩
  · exact h.elim
/-- (*e2e/ip.IP).Tick -/
def ip_IP_Tick.Call (p : Option Addr) (w : World) (R : World → Prop) : Prop :=
  Calls Tryz.prog 124 #[.pointer p] w fun e w' => e = .returned (.tuple #[]) ∧ R w'
theorem ip_IP_Tick.Call.mono {p} {w : World} {R R' : World → Prop} (h : ip_IP_Tick.Call p w R) (hr : ∀ w', R w' → R'  w') : ip_IP_Tick.Call p w R' :=
  Calls.mono h fun e w' he => by
    obtain ⟨h1, h2⟩ := he
    exact ⟨h1, hr  w' h2⟩
def ip_IP_Tick.RV (R : World → Prop) (v : Value) (w : World) : Prop := match v with
  | .tuple ⟨[]⟩ => R w
  | _ => False
theorem ip_IP_Tick.RV_elim {R : World → Prop} {v : Value} {w : World} (h : ip_IP_Tick.RV R v w) : Ending.returned v = .returned (.tuple #[]) ∧ R w := by
  unfold ip_IP_Tick.RV at h
  split at h
  · exact ⟨rfl, h⟩
  · exact h.elim
/-- (*e2e/conn.Conn).Tick -/
def conn_Conn_Tick.Call (c : Option Addr) (w : World) (R : Option Addr → Nat → Nat → World → Prop) : Prop :=
  Calls Tryz.prog 125 #[.pointer c] w fun e w' => ∃ r_b r_l r_c, e = .returned (.slice r_b r_l r_c) ∧ R r_b r_l r_c w'
theorem conn_Conn_Tick.Call.mono {c} {w : World} {R R' : Option Addr → Nat → Nat → World → Prop} (h : conn_Conn_Tick.Call c w R) (hr : ∀ r_b r_l r_c w', R r_b r_l r_c w' → R' r_b r_l r_c w') : conn_Conn_Tick.Call c w R' :=
  Calls.mono h fun e w' he => by
    obtain ⟨r_b, r_l, r_c, h1, h2⟩ := he
    exact ⟨r_b, r_l, r_c, h1, hr r_b r_l r_c w' h2⟩
def conn_Conn_Tick.RV (R : Option Addr → Nat → Nat → World → Prop) (v : Value) (w : World) : Prop := match v with
  | .slice r_b r_l r_c => R r_b r_l r_c w
  | _ => False
theorem conn_Conn_Tick.RV_elim {R : Option Addr → Nat → Nat → World → Prop} {v : Value} {w : World} (h : conn_Conn_Tick.RV R v w) : ∃ r_b r_l r_c, Ending.returned v = .returned (.slice r_b r_l r_c) ∧ R r_b r_l r_c w := by
  unfold conn_Conn_Tick.RV at h
  split at h
  · exact ⟨_, _, _, rfl, h⟩
  · exact h.elim
/-- (*e2e/host.Host).emit -/
def host_Host_emit.Call (h0 out_b : Option Addr) (out_l out_c : Nat) (en_0 en_1 en_2 en_3 en_4 en_5 en_6 : Int) (en_7 : Bool) (segs_b : Option Addr) (segs_l segs_c : Nat) (w : World) (R : Option Addr → Nat → Nat → World → Prop) : Prop :=
  Calls Tryz.prog 126 #[.pointer h0, .slice out_b out_l out_c, .agg #[.int .i64 en_0, .int .i64 en_1, .int .i64 en_2, .int .i64 en_3, .int .i64 en_4, .int .i64 en_5, .int .i64 en_6, .bool en_7], .slice segs_b segs_l segs_c] w fun e w' => ∃ r_b r_l r_c, e = .returned (.slice r_b r_l r_c) ∧ R r_b r_l r_c w'
theorem host_Host_emit.Call.mono {h0 out_b out_l out_c en_0 en_1 en_2 en_3 en_4 en_5 en_6 en_7 segs_b segs_l segs_c} {w : World} {R R' : Option Addr → Nat → Nat → World → Prop} (h : host_Host_emit.Call h0 out_b out_l out_c en_0 en_1 en_2 en_3 en_4 en_5 en_6 en_7 segs_b segs_l segs_c w R) (hr : ∀ r_b r_l r_c w', R r_b r_l r_c w' → R' r_b r_l r_c w') : host_Host_emit.Call h0 out_b out_l out_c en_0 en_1 en_2 en_3 en_4 en_5 en_6 en_7 segs_b segs_l segs_c w R' :=
  Calls.mono h fun e w' he => by
    obtain ⟨r_b, r_l, r_c, h1, h2⟩ := he
    exact ⟨r_b, r_l, r_c, h1, hr r_b r_l r_c w' h2⟩
def host_Host_emit.RV (R : Option Addr → Nat → Nat → World → Prop) (v : Value) (w : World) : Prop := match v with
  | .slice r_b r_l r_c => R r_b r_l r_c w
  | _ => False
theorem host_Host_emit.RV_elim {R : Option Addr → Nat → Nat → World → Prop} {v : Value} {w : World} (h : host_Host_emit.RV R v w) : ∃ r_b r_l r_c, Ending.returned v = .returned (.slice r_b r_l r_c) ∧ R r_b r_l r_c w := by
  unfold host_Host_emit.RV at h
  split at h
  · exact ⟨_, _, _, rfl, h⟩
  · exact h.elim
/-- (*e2e/sock.Table).Free -/
def sock_Table_Free.Call (t : Option Addr) (sd : Int) (w : World) (R : Int → World → Prop) : Prop :=
  Calls Tryz.prog 127 #[.pointer t, .int .i64 sd] w fun e w' => ∃ r, e = .returned (.int .i64 r) ∧ R r w'
theorem sock_Table_Free.Call.mono {t sd} {w : World} {R R' : Int → World → Prop} (h : sock_Table_Free.Call t sd w R) (hr : ∀ r w', R r w' → R' r w') : sock_Table_Free.Call t sd w R' :=
  Calls.mono h fun e w' he => by
    obtain ⟨r, h1, h2⟩ := he
    exact ⟨r, h1, hr r w' h2⟩
def sock_Table_Free.RV (R : Int → World → Prop) (v : Value) (w : World) : Prop := match v with
  | .int .i64 r => R r w
  | _ => False
theorem sock_Table_Free.RV_elim {R : Int → World → Prop} {v : Value} {w : World} (h : sock_Table_Free.RV R v w) : ∃ r, Ending.returned v = .returned (.int .i64 r) ∧ R r w := by
  unfold sock_Table_Free.RV at h
  split at h
  · exact ⟨_, rfl, h⟩
  · exact h.elim
/-- (*e2e/sock.Table).Listen -/
def sock_Table_Listen.Call (t : Option Addr) (port : Int) (w : World) (R : Int → Int → World → Prop) : Prop :=
  Calls Tryz.prog 128 #[.pointer t, .int .i64 port] w fun e w' => ∃ r0 r1, e = .returned (.tuple #[.int .i64 r0, .int .i64 r1]) ∧ R r0 r1 w'
theorem sock_Table_Listen.Call.mono {t port} {w : World} {R R' : Int → Int → World → Prop} (h : sock_Table_Listen.Call t port w R) (hr : ∀ r0 r1 w', R r0 r1 w' → R' r0 r1 w') : sock_Table_Listen.Call t port w R' :=
  Calls.mono h fun e w' he => by
    obtain ⟨r0, r1, h1, h2⟩ := he
    exact ⟨r0, r1, h1, hr r0 r1 w' h2⟩
def sock_Table_Listen.RV (R : Int → Int → World → Prop) (v : Value) (w : World) : Prop := match v with
  | .tuple ⟨[.int .i64 r0, .int .i64 r1]⟩ => R r0 r1 w
  | _ => False
theorem sock_Table_Listen.RV_elim {R : Int → Int → World → Prop} {v : Value} {w : World} (h : sock_Table_Listen.RV R v w) : ∃ r0 r1, Ending.returned v = .returned (.tuple #[.int .i64 r0, .int .i64 r1]) ∧ R r0 r1 w := by
  unfold sock_Table_Listen.RV at h
  split at h
  · exact ⟨_, _, rfl, h⟩
  · exact h.elim
/-- (*e2e/sock.Table).Connect -/
def sock_Table_Connect.Call (t : Option Addr) (rhost rport : Int) (w : World) (R : Int → Int → World → Prop) : Prop :=
  Calls Tryz.prog 129 #[.pointer t, .int .i64 rhost, .int .i64 rport] w fun e w' => ∃ r0 r1, e = .returned (.tuple #[.int .i64 r0, .int .i64 r1]) ∧ R r0 r1 w'
theorem sock_Table_Connect.Call.mono {t rhost rport} {w : World} {R R' : Int → Int → World → Prop} (h : sock_Table_Connect.Call t rhost rport w R) (hr : ∀ r0 r1 w', R r0 r1 w' → R' r0 r1 w') : sock_Table_Connect.Call t rhost rport w R' :=
  Calls.mono h fun e w' he => by
    obtain ⟨r0, r1, h1, h2⟩ := he
    exact ⟨r0, r1, h1, hr r0 r1 w' h2⟩
def sock_Table_Connect.RV (R : Int → Int → World → Prop) (v : Value) (w : World) : Prop := match v with
  | .tuple ⟨[.int .i64 r0, .int .i64 r1]⟩ => R r0 r1 w
  | _ => False
theorem sock_Table_Connect.RV_elim {R : Int → Int → World → Prop} {v : Value} {w : World} (h : sock_Table_Connect.RV R v w) : ∃ r0 r1, Ending.returned v = .returned (.tuple #[.int .i64 r0, .int .i64 r1]) ∧ R r0 r1 w := by
  unfold sock_Table_Connect.RV at h
  split at h
  · exact ⟨_, _, rfl, h⟩
  · exact h.elim
/-- (*e2e/conn.Conn).OpenActive -/
def conn_Conn_OpenActive.Call (c : Option Addr) (iss : Int) (w : World) (R : Option Addr → Nat → Nat → Int → World → Prop) : Prop :=
  Calls Tryz.prog 130 #[.pointer c, .int .i64 iss] w fun e w' => ∃ r0_b r0_l r0_c r1, e = .returned (.tuple #[.slice r0_b r0_l r0_c, .int .i64 r1]) ∧ R r0_b r0_l r0_c r1 w'
theorem conn_Conn_OpenActive.Call.mono {c iss} {w : World} {R R' : Option Addr → Nat → Nat → Int → World → Prop} (h : conn_Conn_OpenActive.Call c iss w R) (hr : ∀ r0_b r0_l r0_c r1 w', R r0_b r0_l r0_c r1 w' → R' r0_b r0_l r0_c r1 w') : conn_Conn_OpenActive.Call c iss w R' :=
  Calls.mono h fun e w' he => by
    obtain ⟨r0_b, r0_l, r0_c, r1, h1, h2⟩ := he
    exact ⟨r0_b, r0_l, r0_c, r1, h1, hr r0_b r0_l r0_c r1 w' h2⟩
def conn_Conn_OpenActive.RV (R : Option Addr → Nat → Nat → Int → World → Prop) (v : Value) (w : World) : Prop := match v with
  | .tuple ⟨[.slice r0_b r0_l r0_c, .int .i64 r1]⟩ => R r0_b r0_l r0_c r1 w
  | _ => False
theorem conn_Conn_OpenActive.RV_elim {R : Option Addr → Nat → Nat → Int → World → Prop} {v : Value} {w : World} (h : conn_Conn_OpenActive.RV R v w) : ∃ r0_b r0_l r0_c r1, Ending.returned v = .returned (.tuple #[.slice r0_b r0_l r0_c, .int .i64 r1]) ∧ R r0_b r0_l r0_c r1 w := by
  unfold conn_Conn_OpenActive.RV at h
  split at h
  · exact ⟨_, _, _, _, rfl, h⟩
  · exact h.elim
/-- (*e2e/sock.Table).Accept -/
def sock_Table_Accept.Call (t : Option Addr) (lsd : Int) (w : World) (R : Int → Int → World → Prop) : Prop :=
  Calls Tryz.prog 131 #[.pointer t, .int .i64 lsd] w fun e w' => ∃ r0 r1, e = .returned (.tuple #[.int .i64 r0, .int .i64 r1]) ∧ R r0 r1 w'
theorem sock_Table_Accept.Call.mono {t lsd} {w : World} {R R' : Int → Int → World → Prop} (h : sock_Table_Accept.Call t lsd w R) (hr : ∀ r0 r1 w', R r0 r1 w' → R' r0 r1 w') : sock_Table_Accept.Call t lsd w R' :=
  Calls.mono h fun e w' he => by
    obtain ⟨r0, r1, h1, h2⟩ := he
    exact ⟨r0, r1, h1, hr r0 r1 w' h2⟩
def sock_Table_Accept.RV (R : Int → Int → World → Prop) (v : Value) (w : World) : Prop := match v with
  | .tuple ⟨[.int .i64 r0, .int .i64 r1]⟩ => R r0 r1 w
  | _ => False
theorem sock_Table_Accept.RV_elim {R : Int → Int → World → Prop} {v : Value} {w : World} (h : sock_Table_Accept.RV R v w) : ∃ r0 r1, Ending.returned v = .returned (.tuple #[.int .i64 r0, .int .i64 r1]) ∧ R r0 r1 w := by
  unfold sock_Table_Accept.RV at h
  split at h
  · exact ⟨_, _, rfl, h⟩
  · exact h.elim
/-- e2e/hostm.ended -/
def hostm_ended.Call (c : Option Addr) (w : World) (R : Int → World → Prop) : Prop :=
  Calls Tryz.prog 132 #[.pointer c] w fun e w' => ∃ r, e = .returned (.int .i64 r) ∧ R r w'
theorem hostm_ended.Call.mono {c} {w : World} {R R' : Int → World → Prop} (h : hostm_ended.Call c w R) (hr : ∀ r w', R r w' → R' r w') : hostm_ended.Call c w R' :=
  Calls.mono h fun e w' he => by
    obtain ⟨r, h1, h2⟩ := he
    exact ⟨r, h1, hr r w' h2⟩
def hostm_ended.RV (R : Int → World → Prop) (v : Value) (w : World) : Prop := match v with
  | .int .i64 r => R r w
  | _ => False
theorem hostm_ended.RV_elim {R : Int → World → Prop} {v : Value} {w : World} (h : hostm_ended.RV R v w) : ∃ r, Ending.returned v = .returned (.int .i64 r) ∧ R r w := by
  unfold hostm_ended.RV at h
  split at h
  · exact ⟨_, rfl, h⟩
  · exact h.elim
/-- (*e2e/host.Host).ours -/
def host_Host_ours.Call (h0 : Option Addr) (sd : Int) (w : World) (R : Int → Int → Int → Int → Int → Int → Int → Bool → Bool → World → Prop) : Prop :=
  Calls Tryz.prog 133 #[.pointer h0, .int .i64 sd] w fun e w' => ∃ r0_0 r0_1 r0_2 r0_3 r0_4 r0_5 r0_6 r0_7 r1, e = .returned (.tuple #[.agg #[.int .i64 r0_0, .int .i64 r0_1, .int .i64 r0_2, .int .i64 r0_3, .int .i64 r0_4, .int .i64 r0_5, .int .i64 r0_6, .bool r0_7], .bool r1]) ∧ R r0_0 r0_1 r0_2 r0_3 r0_4 r0_5 r0_6 r0_7 r1 w'
theorem host_Host_ours.Call.mono {h0 sd} {w : World} {R R' : Int → Int → Int → Int → Int → Int → Int → Bool → Bool → World → Prop} (h : host_Host_ours.Call h0 sd w R) (hr : ∀ r0_0 r0_1 r0_2 r0_3 r0_4 r0_5 r0_6 r0_7 r1 w', R r0_0 r0_1 r0_2 r0_3 r0_4 r0_5 r0_6 r0_7 r1 w' → R' r0_0 r0_1 r0_2 r0_3 r0_4 r0_5 r0_6 r0_7 r1 w') : host_Host_ours.Call h0 sd w R' :=
  Calls.mono h fun e w' he => by
    obtain ⟨r0_0, r0_1, r0_2, r0_3, r0_4, r0_5, r0_6, r0_7, r1, h1, h2⟩ := he
    exact ⟨r0_0, r0_1, r0_2, r0_3, r0_4, r0_5, r0_6, r0_7, r1, h1, hr r0_0 r0_1 r0_2 r0_3 r0_4 r0_5 r0_6 r0_7 r1 w' h2⟩
def host_Host_ours.RV (R : Int → Int → Int → Int → Int → Int → Int → Bool → Bool → World → Prop) (v : Value) (w : World) : Prop := match v with
  | .tuple ⟨[.agg ⟨[.int .i64 r0_0, .int .i64 r0_1, .int .i64 r0_2, .int .i64 r0_3, .int .i64 r0_4, .int .i64 r0_5, .int .i64 r0_6, .bool r0_7]⟩, .bool r1]⟩ => R r0_0 r0_1 r0_2 r0_3 r0_4 r0_5 r0_6 r0_7 r1 w
  | _ => False
theorem host_Host_ours.RV_elim {R : Int → Int → Int → Int → Int → Int → Int → Bool → Bool → World → Prop} {v : Value} {w : World} (h : host_Host_ours.RV R v w) : ∃ r0_0 r0_1 r0_2 r0_3 r0_4 r0_5 r0_6 r0_7 r1, Ending.returned v = .returned (.tuple #[.agg #[.int .i64 r0_0, .int .i64 r0_1, .int .i64 r0_2, .int .i64 r0_3, .int .i64 r0_4, .int .i64 r0_5, .int .i64 r0_6, .bool r0_7], .bool r1]) ∧ R r0_0 r0_1 r0_2 r0_3 r0_4 r0_5 r0_6 r0_7 r1 w := by
  unfold host_Host_ours.RV at h
  split at h
  · exact ⟨_, _, _, _, _, _, _, _, _, rfl, h⟩
  · exact h.elim
/-- (*e2e/conn.Conn).Send -/
def conn_Conn_Send.Call (c p_b : Option Addr) (p_l p_c : Nat) (w : World) (R : Int → Option Addr → Nat → Nat → Int → World → Prop) : Prop :=
  Calls Tryz.prog 134 #[.pointer c, .slice p_b p_l p_c] w fun e w' => ∃ r0 r1_b r1_l r1_c r2, e = .returned (.tuple #[.int .i64 r0, .slice r1_b r1_l r1_c, .int .i64 r2]) ∧ R r0 r1_b r1_l r1_c r2 w'
theorem conn_Conn_Send.Call.mono {c p_b p_l p_c} {w : World} {R R' : Int → Option Addr → Nat → Nat → Int → World → Prop} (h : conn_Conn_Send.Call c p_b p_l p_c w R) (hr : ∀ r0 r1_b r1_l r1_c r2 w', R r0 r1_b r1_l r1_c r2 w' → R' r0 r1_b r1_l r1_c r2 w') : conn_Conn_Send.Call c p_b p_l p_c w R' :=
  Calls.mono h fun e w' he => by
    obtain ⟨r0, r1_b, r1_l, r1_c, r2, h1, h2⟩ := he
    exact ⟨r0, r1_b, r1_l, r1_c, r2, h1, hr r0 r1_b r1_l r1_c r2 w' h2⟩
def conn_Conn_Send.RV (R : Int → Option Addr → Nat → Nat → Int → World → Prop) (v : Value) (w : World) : Prop := match v with
  | .tuple ⟨[.int .i64 r0, .slice r1_b r1_l r1_c, .int .i64 r2]⟩ => R r0 r1_b r1_l r1_c r2 w
  | _ => False
theorem conn_Conn_Send.RV_elim {R : Int → Option Addr → Nat → Nat → Int → World → Prop} {v : Value} {w : World} (h : conn_Conn_Send.RV R v w) : ∃ r0 r1_b r1_l r1_c r2, Ending.returned v = .returned (.tuple #[.int .i64 r0, .slice r1_b r1_l r1_c, .int .i64 r2]) ∧ R r0 r1_b r1_l r1_c r2 w := by
  unfold conn_Conn_Send.RV at h
  split at h
  · exact ⟨_, _, _, _, _, rfl, h⟩
  · exact h.elim
/-- (*e2e/conn.Conn).Recv -/
def conn_Conn_Recv.Call (c : Option Addr) (max : Int) (w : World) (R : Option Addr → Nat → Nat → Option Addr → Nat → Nat → Int → World → Prop) : Prop :=
  Calls Tryz.prog 135 #[.pointer c, .int .i64 max] w fun e w' => ∃ r0_b r0_l r0_c r1_b r1_l r1_c r2, e = .returned (.tuple #[.slice r0_b r0_l r0_c, .slice r1_b r1_l r1_c, .int .i64 r2]) ∧ R r0_b r0_l r0_c r1_b r1_l r1_c r2 w'
theorem conn_Conn_Recv.Call.mono {c max} {w : World} {R R' : Option Addr → Nat → Nat → Option Addr → Nat → Nat → Int → World → Prop} (h : conn_Conn_Recv.Call c max w R) (hr : ∀ r0_b r0_l r0_c r1_b r1_l r1_c r2 w', R r0_b r0_l r0_c r1_b r1_l r1_c r2 w' → R' r0_b r0_l r0_c r1_b r1_l r1_c r2 w') : conn_Conn_Recv.Call c max w R' :=
  Calls.mono h fun e w' he => by
    obtain ⟨r0_b, r0_l, r0_c, r1_b, r1_l, r1_c, r2, h1, h2⟩ := he
    exact ⟨r0_b, r0_l, r0_c, r1_b, r1_l, r1_c, r2, h1, hr r0_b r0_l r0_c r1_b r1_l r1_c r2 w' h2⟩
def conn_Conn_Recv.RV (R : Option Addr → Nat → Nat → Option Addr → Nat → Nat → Int → World → Prop) (v : Value) (w : World) : Prop := match v with
  | .tuple ⟨[.slice r0_b r0_l r0_c, .slice r1_b r1_l r1_c, .int .i64 r2]⟩ => R r0_b r0_l r0_c r1_b r1_l r1_c r2 w
  | _ => False
theorem conn_Conn_Recv.RV_elim {R : Option Addr → Nat → Nat → Option Addr → Nat → Nat → Int → World → Prop} {v : Value} {w : World} (h : conn_Conn_Recv.RV R v w) : ∃ r0_b r0_l r0_c r1_b r1_l r1_c r2, Ending.returned v = .returned (.tuple #[.slice r0_b r0_l r0_c, .slice r1_b r1_l r1_c, .int .i64 r2]) ∧ R r0_b r0_l r0_c r1_b r1_l r1_c r2 w := by
  unfold conn_Conn_Recv.RV at h
  split at h
  · exact ⟨_, _, _, _, _, _, _, rfl, h⟩
  · exact h.elim
/-- e2e/api.IsPrefix -/
def api_IsPrefix.Call (a_b : Option Addr) (a_l a_c : Nat) (b_b : Option Addr) (b_l b_c : Nat) (w : World) (R : Bool → World → Prop) : Prop :=
  Calls Tryz.prog 136 #[.slice a_b a_l a_c, .slice b_b b_l b_c] w fun e w' => ∃ r, e = .returned (.bool r) ∧ R r w'
theorem api_IsPrefix.Call.mono {a_b a_l a_c b_b b_l b_c} {w : World} {R R' : Bool → World → Prop} (h : api_IsPrefix.Call a_b a_l a_c b_b b_l b_c w R) (hr : ∀ r w', R r w' → R' r w') : api_IsPrefix.Call a_b a_l a_c b_b b_l b_c w R' :=
  Calls.mono h fun e w' he => by
    obtain ⟨r, h1, h2⟩ := he
    exact ⟨r, h1, hr r w' h2⟩
def api_IsPrefix.RV (R : Bool → World → Prop) (v : Value) (w : World) : Prop := match v with
  | .bool r => R r w
  | _ => False
theorem api_IsPrefix.RV_elim {R : Bool → World → Prop} {v : Value} {w : World} (h : api_IsPrefix.RV R v w) : ∃ r, Ending.returned v = .returned (.bool r) ∧ R r w := by
  unfold api_IsPrefix.RV at h
  split at h
  · exact ⟨_, rfl, h⟩
  · exact h.elim
/-- (*e2e/host.Host).listener -/
def host_Host_listener.Call (h0 : Option Addr) (sd : Int) (w : World) (R : Bool → World → Prop) : Prop :=
  Calls Tryz.prog 137 #[.pointer h0, .int .i64 sd] w fun e w' => ∃ r, e = .returned (.bool r) ∧ R r w'
theorem host_Host_listener.Call.mono {h0 sd} {w : World} {R R' : Bool → World → Prop} (h : host_Host_listener.Call h0 sd w R) (hr : ∀ r w', R r w' → R' r w') : host_Host_listener.Call h0 sd w R' :=
  Calls.mono h fun e w' he => by
    obtain ⟨r, h1, h2⟩ := he
    exact ⟨r, h1, hr r w' h2⟩
def host_Host_listener.RV (R : Bool → World → Prop) (v : Value) (w : World) : Prop := match v with
  | .bool r => R r w
  | _ => False
theorem host_Host_listener.RV_elim {R : Bool → World → Prop} {v : Value} {w : World} (h : host_Host_listener.RV R v w) : ∃ r, Ending.returned v = .returned (.bool r) ∧ R r w := by
  unfold host_Host_listener.RV at h
  split at h
  · exact ⟨_, rfl, h⟩
  · exact h.elim
/-- (*e2e/host.Host).shut -/
def host_Host_shut.Call (h0 : Option Addr) (lsd : Int) (w : World) (R : Option Addr → Nat → Nat → World → Prop) : Prop :=
  Calls Tryz.prog 138 #[.pointer h0, .int .i64 lsd] w fun e w' => ∃ r_b r_l r_c, e = .returned (.slice r_b r_l r_c) ∧ R r_b r_l r_c w'
theorem host_Host_shut.Call.mono {h0 lsd} {w : World} {R R' : Option Addr → Nat → Nat → World → Prop} (h : host_Host_shut.Call h0 lsd w R) (hr : ∀ r_b r_l r_c w', R r_b r_l r_c w' → R' r_b r_l r_c w') : host_Host_shut.Call h0 lsd w R' :=
  Calls.mono h fun e w' he => by
    obtain ⟨r_b, r_l, r_c, h1, h2⟩ := he
    exact ⟨r_b, r_l, r_c, h1, hr r_b r_l r_c w' h2⟩
def host_Host_shut.RV (R : Option Addr → Nat → Nat → World → Prop) (v : Value) (w : World) : Prop := match v with
  | .slice r_b r_l r_c => R r_b r_l r_c w
  | _ => False
theorem host_Host_shut.RV_elim {R : Option Addr → Nat → Nat → World → Prop} {v : Value} {w : World} (h : host_Host_shut.RV R v w) : ∃ r_b r_l r_c, Ending.returned v = .returned (.slice r_b r_l r_c) ∧ R r_b r_l r_c w := by
  unfold host_Host_shut.RV at h
  split at h
  · exact ⟨_, _, _, rfl, h⟩
  · exact h.elim
/-- (*e2e/conn.Conn).Abort -/
def conn_Conn_Abort.Call (c : Option Addr) (w : World) (R : Option Addr → Nat → Nat → Int → World → Prop) : Prop :=
  Calls Tryz.prog 139 #[.pointer c] w fun e w' => ∃ r0_b r0_l r0_c r1, e = .returned (.tuple #[.slice r0_b r0_l r0_c, .int .i64 r1]) ∧ R r0_b r0_l r0_c r1 w'
theorem conn_Conn_Abort.Call.mono {c} {w : World} {R R' : Option Addr → Nat → Nat → Int → World → Prop} (h : conn_Conn_Abort.Call c w R) (hr : ∀ r0_b r0_l r0_c r1 w', R r0_b r0_l r0_c r1 w' → R' r0_b r0_l r0_c r1 w') : conn_Conn_Abort.Call c w R' :=
  Calls.mono h fun e w' he => by
    obtain ⟨r0_b, r0_l, r0_c, r1, h1, h2⟩ := he
    exact ⟨r0_b, r0_l, r0_c, r1, h1, hr r0_b r0_l r0_c r1 w' h2⟩
def conn_Conn_Abort.RV (R : Option Addr → Nat → Nat → Int → World → Prop) (v : Value) (w : World) : Prop := match v with
  | .tuple ⟨[.slice r0_b r0_l r0_c, .int .i64 r1]⟩ => R r0_b r0_l r0_c r1 w
  | _ => False
theorem conn_Conn_Abort.RV_elim {R : Option Addr → Nat → Nat → Int → World → Prop} {v : Value} {w : World} (h : conn_Conn_Abort.RV R v w) : ∃ r0_b r0_l r0_c r1, Ending.returned v = .returned (.tuple #[.slice r0_b r0_l r0_c, .int .i64 r1]) ∧ R r0_b r0_l r0_c r1 w := by
  unfold conn_Conn_Abort.RV at h
  split at h
  · exact ⟨_, _, _, _, rfl, h⟩
  · exact h.elim
/-- (*e2e/conn.Conn).Close -/
def conn_Conn_Close.Call (c : Option Addr) (w : World) (R : Option Addr → Nat → Nat → Int → World → Prop) : Prop :=
  Calls Tryz.prog 140 #[.pointer c] w fun e w' => ∃ r0_b r0_l r0_c r1, e = .returned (.tuple #[.slice r0_b r0_l r0_c, .int .i64 r1]) ∧ R r0_b r0_l r0_c r1 w'
theorem conn_Conn_Close.Call.mono {c} {w : World} {R R' : Option Addr → Nat → Nat → Int → World → Prop} (h : conn_Conn_Close.Call c w R) (hr : ∀ r0_b r0_l r0_c r1 w', R r0_b r0_l r0_c r1 w' → R' r0_b r0_l r0_c r1 w') : conn_Conn_Close.Call c w R' :=
  Calls.mono h fun e w' he => by
    obtain ⟨r0_b, r0_l, r0_c, r1, h1, h2⟩ := he
    exact ⟨r0_b, r0_l, r0_c, r1, h1, hr r0_b r0_l r0_c r1 w' h2⟩
def conn_Conn_Close.RV (R : Option Addr → Nat → Nat → Int → World → Prop) (v : Value) (w : World) : Prop := match v with
  | .tuple ⟨[.slice r0_b r0_l r0_c, .int .i64 r1]⟩ => R r0_b r0_l r0_c r1 w
  | _ => False
theorem conn_Conn_Close.RV_elim {R : Option Addr → Nat → Nat → Int → World → Prop} {v : Value} {w : World} (h : conn_Conn_Close.RV R v w) : ∃ r0_b r0_l r0_c r1, Ending.returned v = .returned (.tuple #[.slice r0_b r0_l r0_c, .int .i64 r1]) ∧ R r0_b r0_l r0_c r1 w := by
  unfold conn_Conn_Close.RV at h
  split at h
  · exact ⟨_, _, _, _, rfl, h⟩
  · exact h.elim
/-- (*e2e/seg.SendBuf).Una -/
def seg_SendBuf_Una.Call (b : Option Addr) (w : World) (R : Int → World → Prop) : Prop :=
  Calls Tryz.prog 141 #[.pointer b] w fun e w' => ∃ r, e = .returned (.int .i64 r) ∧ R r w'
theorem seg_SendBuf_Una.Call.mono {b} {w : World} {R R' : Int → World → Prop} (h : seg_SendBuf_Una.Call b w R) (hr : ∀ r w', R r w' → R' r w') : seg_SendBuf_Una.Call b w R' :=
  Calls.mono h fun e w' he => by
    obtain ⟨r, h1, h2⟩ := he
    exact ⟨r, h1, hr r w' h2⟩
def seg_SendBuf_Una.RV (R : Int → World → Prop) (v : Value) (w : World) : Prop := match v with
  | .int .i64 r => R r w
  | _ => False
theorem seg_SendBuf_Una.RV_elim {R : Int → World → Prop} {v : Value} {w : World} (h : seg_SendBuf_Una.RV R v w) : ∃ r, Ending.returned v = .returned (.int .i64 r) ∧ R r w := by
  unfold seg_SendBuf_Una.RV at h
  split at h
  · exact ⟨_, rfl, h⟩
  · exact h.elim
/-- e2e/api.SeqAdd -/
def api_SeqAdd.Call (a n : Int) (w : World) (R : Int → World → Prop) : Prop :=
  Calls Tryz.prog 142 #[.int .i64 a, .int .i64 n] w fun e w' => ∃ r, e = .returned (.int .i64 r) ∧ R r w'
theorem api_SeqAdd.Call.mono {a n} {w : World} {R R' : Int → World → Prop} (h : api_SeqAdd.Call a n w R) (hr : ∀ r w', R r w' → R' r w') : api_SeqAdd.Call a n w R' :=
  Calls.mono h fun e w' he => by
    obtain ⟨r, h1, h2⟩ := he
    exact ⟨r, h1, hr r w' h2⟩
def api_SeqAdd.RV (R : Int → World → Prop) (v : Value) (w : World) : Prop := match v with
  | .int .i64 r => R r w
  | _ => False
theorem api_SeqAdd.RV_elim {R : Int → World → Prop} {v : Value} {w : World} (h : api_SeqAdd.RV R v w) : ∃ r, Ending.returned v = .returned (.int .i64 r) ∧ R r w := by
  unfold api_SeqAdd.RV at h
  split at h
  · exact ⟨_, rfl, h⟩
  · exact h.elim
/-- (*e2e/conn.Conn).flying -/
def conn_Conn_flying.Call (c : Option Addr) (w : World) (R : Int → World → Prop) : Prop :=
  Calls Tryz.prog 143 #[.pointer c] w fun e w' => ∃ r, e = .returned (.int .i64 r) ∧ R r w'
theorem conn_Conn_flying.Call.mono {c} {w : World} {R R' : Int → World → Prop} (h : conn_Conn_flying.Call c w R) (hr : ∀ r w', R r w' → R' r w') : conn_Conn_flying.Call c w R' :=
  Calls.mono h fun e w' he => by
    obtain ⟨r, h1, h2⟩ := he
    exact ⟨r, h1, hr r w' h2⟩
def conn_Conn_flying.RV (R : Int → World → Prop) (v : Value) (w : World) : Prop := match v with
  | .int .i64 r => R r w
  | _ => False
theorem conn_Conn_flying.RV_elim {R : Int → World → Prop} {v : Value} {w : World} (h : conn_Conn_flying.RV R v w) : ∃ r, Ending.returned v = .returned (.int .i64 r) ∧ R r w := by
  unfold conn_Conn_flying.RV at h
  split at h
  · exact ⟨_, rfl, h⟩
  · exact h.elim
/-- (*e2e/seg.RecvBuf).Nxt -/
def seg_RecvBuf_Nxt.Call (b : Option Addr) (w : World) (R : Int → World → Prop) : Prop :=
  Calls Tryz.prog 144 #[.pointer b] w fun e w' => ∃ r, e = .returned (.int .i64 r) ∧ R r w'
theorem seg_RecvBuf_Nxt.Call.mono {b} {w : World} {R R' : Int → World → Prop} (h : seg_RecvBuf_Nxt.Call b w R) (hr : ∀ r w', R r w' → R' r w') : seg_RecvBuf_Nxt.Call b w R' :=
  Calls.mono h fun e w' he => by
    obtain ⟨r, h1, h2⟩ := he
    exact ⟨r, h1, hr r w' h2⟩
def seg_RecvBuf_Nxt.RV (R : Int → World → Prop) (v : Value) (w : World) : Prop := match v with
  | .int .i64 r => R r w
  | _ => False
theorem seg_RecvBuf_Nxt.RV_elim {R : Int → World → Prop} {v : Value} {w : World} (h : seg_RecvBuf_Nxt.RV R v w) : ∃ r, Ending.returned v = .returned (.int .i64 r) ∧ R r w := by
  unfold seg_RecvBuf_Nxt.RV at h
  split at h
  · exact ⟨_, rfl, h⟩
  · exact h.elim
/-- e2e/frame.sound -/
def frame_sound.Call (raw_b : Option Addr) (raw_l raw_c : Nat) (w : World) (R : Int → World → Prop) : Prop :=
  Calls Tryz.prog 145 #[.slice raw_b raw_l raw_c] w fun e w' => ∃ r, e = .returned (.int .i64 r) ∧ R r w'
theorem frame_sound.Call.mono {raw_b raw_l raw_c} {w : World} {R R' : Int → World → Prop} (h : frame_sound.Call raw_b raw_l raw_c w R) (hr : ∀ r w', R r w' → R' r w') : frame_sound.Call raw_b raw_l raw_c w R' :=
  Calls.mono h fun e w' he => by
    obtain ⟨r, h1, h2⟩ := he
    exact ⟨r, h1, hr r w' h2⟩
def frame_sound.RV (R : Int → World → Prop) (v : Value) (w : World) : Prop := match v with
  | .int .i64 r => R r w
  | _ => False
theorem frame_sound.RV_elim {R : Int → World → Prop} {v : Value} {w : World} (h : frame_sound.RV R v w) : ∃ r, Ending.returned v = .returned (.int .i64 r) ∧ R r w := by
  unfold frame_sound.RV at h
  split at h
  · exact ⟨_, rfl, h⟩
  · exact h.elim
/-- (*e2e/frame.Link).count -/
def frame_Link_count.Call (l : Option Addr) (c : Int) (w : World) (R : World → Prop) : Prop :=
  Calls Tryz.prog 146 #[.pointer l, .int .i64 c] w fun e w' => e = .returned (.tuple #[]) ∧ R w'
theorem frame_Link_count.Call.mono {l c} {w : World} {R R' : World → Prop} (h : frame_Link_count.Call l c w R) (hr : ∀ w', R w' → R'  w') : frame_Link_count.Call l c w R' :=
  Calls.mono h fun e w' he => by
    obtain ⟨h1, h2⟩ := he
    exact ⟨h1, hr  w' h2⟩
def frame_Link_count.RV (R : World → Prop) (v : Value) (w : World) : Prop := match v with
  | .tuple ⟨[]⟩ => R w
  | _ => False
theorem frame_Link_count.RV_elim {R : World → Prop} {v : Value} {w : World} (h : frame_Link_count.RV R v w) : Ending.returned v = .returned (.tuple #[]) ∧ R w := by
  unfold frame_Link_count.RV at h
  split at h
  · exact ⟨rfl, h⟩
  · exact h.elim
/-- e2e/ip.sumOf -/
def ip_sumOf.Call (b_b : Option Addr) (b_l b_c : Nat) (w : World) (R : Int → World → Prop) : Prop :=
  Calls Tryz.prog 147 #[.slice b_b b_l b_c] w fun e w' => ∃ r, e = .returned (.int .u8 r) ∧ R r w'
theorem ip_sumOf.Call.mono {b_b b_l b_c} {w : World} {R R' : Int → World → Prop} (h : ip_sumOf.Call b_b b_l b_c w R) (hr : ∀ r w', R r w' → R' r w') : ip_sumOf.Call b_b b_l b_c w R' :=
  Calls.mono h fun e w' he => by
    obtain ⟨r, h1, h2⟩ := he
    exact ⟨r, h1, hr r w' h2⟩
def ip_sumOf.RV (R : Int → World → Prop) (v : Value) (w : World) : Prop := match v with
  | .int .u8 r => R r w
  | _ => False
theorem ip_sumOf.RV_elim {R : Int → World → Prop} {v : Value} {w : World} (h : ip_sumOf.RV R v w) : ∃ r, Ending.returned v = .returned (.int .u8 r) ∧ R r w := by
  unfold ip_sumOf.RV at h
  split at h
  · exact ⟨_, rfl, h⟩
  · exact h.elim
/-- e2e/ip.keyOf -/
def ip_keyOf.Call (src proto id0 : Int) (w : World) (R : Int → World → Prop) : Prop :=
  Calls Tryz.prog 148 #[.int .i64 src, .int .i64 proto, .int .i64 id0] w fun e w' => ∃ r, e = .returned (.int .i64 r) ∧ R r w'
theorem ip_keyOf.Call.mono {src proto id0} {w : World} {R R' : Int → World → Prop} (h : ip_keyOf.Call src proto id0 w R) (hr : ∀ r w', R r w' → R' r w') : ip_keyOf.Call src proto id0 w R' :=
  Calls.mono h fun e w' he => by
    obtain ⟨r, h1, h2⟩ := he
    exact ⟨r, h1, hr r w' h2⟩
def ip_keyOf.RV (R : Int → World → Prop) (v : Value) (w : World) : Prop := match v with
  | .int .i64 r => R r w
  | _ => False
theorem ip_keyOf.RV_elim {R : Int → World → Prop} {v : Value} {w : World} (h : ip_keyOf.RV R v w) : ∃ r, Ending.returned v = .returned (.int .i64 r) ∧ R r w := by
  unfold ip_keyOf.RV at h
  split at h
  · exact ⟨_, rfl, h⟩
  · exact h.elim
/-- (*e2e/ip.IP).find -/
def ip_IP_find.Call (p : Option Addr) (key : Int) (w : World) (R : Int → World → Prop) : Prop :=
  Calls Tryz.prog 149 #[.pointer p, .int .i64 key] w fun e w' => ∃ r, e = .returned (.int .i64 r) ∧ R r w'
theorem ip_IP_find.Call.mono {p key} {w : World} {R R' : Int → World → Prop} (h : ip_IP_find.Call p key w R) (hr : ∀ r w', R r w' → R' r w') : ip_IP_find.Call p key w R' :=
  Calls.mono h fun e w' he => by
    obtain ⟨r, h1, h2⟩ := he
    exact ⟨r, h1, hr r w' h2⟩
def ip_IP_find.RV (R : Int → World → Prop) (v : Value) (w : World) : Prop := match v with
  | .int .i64 r => R r w
  | _ => False
theorem ip_IP_find.RV_elim {R : Int → World → Prop} {v : Value} {w : World} (h : ip_IP_find.RV R v w) : ∃ r, Ending.returned v = .returned (.int .i64 r) ∧ R r w := by
  unfold ip_IP_find.RV at h
  split at h
  · exact ⟨_, rfl, h⟩
  · exact h.elim
/-- (*e2e/ip.IP).vacant -/
def ip_IP_vacant.Call (p : Option Addr) (w : World) (R : Int → World → Prop) : Prop :=
  Calls Tryz.prog 150 #[.pointer p] w fun e w' => ∃ r, e = .returned (.int .i64 r) ∧ R r w'
theorem ip_IP_vacant.Call.mono {p} {w : World} {R R' : Int → World → Prop} (h : ip_IP_vacant.Call p w R) (hr : ∀ r w', R r w' → R' r w') : ip_IP_vacant.Call p w R' :=
  Calls.mono h fun e w' he => by
    obtain ⟨r, h1, h2⟩ := he
    exact ⟨r, h1, hr r w' h2⟩
def ip_IP_vacant.RV (R : Int → World → Prop) (v : Value) (w : World) : Prop := match v with
  | .int .i64 r => R r w
  | _ => False
theorem ip_IP_vacant.RV_elim {R : Int → World → Prop} {v : Value} {w : World} (h : ip_IP_vacant.RV R v w) : ∃ r, Ending.returned v = .returned (.int .i64 r) ∧ R r w := by
  unfold ip_IP_vacant.RV at h
  split at h
  · exact ⟨_, rfl, h⟩
  · exact h.elim
/-- (*e2e/ip.IP).clash -/
def ip_IP_clash.Call (p : Option Addr) (i end0 : Int) (more : Bool) (w : World) (R : Bool → World → Prop) : Prop :=
  Calls Tryz.prog 151 #[.pointer p, .int .i64 i, .int .i64 end0, .bool more] w fun e w' => ∃ r, e = .returned (.bool r) ∧ R r w'
theorem ip_IP_clash.Call.mono {p i end0 more} {w : World} {R R' : Bool → World → Prop} (h : ip_IP_clash.Call p i end0 more w R) (hr : ∀ r w', R r w' → R' r w') : ip_IP_clash.Call p i end0 more w R' :=
  Calls.mono h fun e w' he => by
    obtain ⟨r, h1, h2⟩ := he
    exact ⟨r, h1, hr r w' h2⟩
def ip_IP_clash.RV (R : Bool → World → Prop) (v : Value) (w : World) : Prop := match v with
  | .bool r => R r w
  | _ => False
theorem ip_IP_clash.RV_elim {R : Bool → World → Prop} {v : Value} {w : World} (h : ip_IP_clash.RV R v w) : ∃ r, Ending.returned v = .returned (.bool r) ∧ R r w := by
  unfold ip_IP_clash.RV at h
  split at h
  · exact ⟨_, rfl, h⟩
  · exact h.elim
/-- (*e2e/ip.IP).lay -/
def ip_IP_lay.Call (p : Option Addr) (i off : Int) (payload_b : Option Addr) (payload_l payload_c : Nat) (w : World) (R : World → Prop) : Prop :=
  Calls Tryz.prog 152 #[.pointer p, .int .i64 i, .int .i64 off, .slice payload_b payload_l payload_c] w fun e w' => e = .returned (.tuple #[]) ∧ R w'
theorem ip_IP_lay.Call.mono {p i off payload_b payload_l payload_c} {w : World} {R R' : World → Prop} (h : ip_IP_lay.Call p i off payload_b payload_l payload_c w R) (hr : ∀ w', R w' → R'  w') : ip_IP_lay.Call p i off payload_b payload_l payload_c w R' :=
  Calls.mono h fun e w' he => by
    obtain ⟨h1, h2⟩ := he
    exact ⟨h1, hr  w' h2⟩
def ip_IP_lay.RV (R : World → Prop) (v : Value) (w : World) : Prop := match v with
  | .tuple ⟨[]⟩ => R w
  | _ => False
theorem ip_IP_lay.RV_elim {R : World → Prop} {v : Value} {w : World} (h : ip_IP_lay.RV R v w) : Ending.returned v = .returned (.tuple #[]) ∧ R w := by
  unfold ip_IP_lay.RV at h
  split at h
  · exact ⟨rfl, h⟩
  · exact h.elim
/-- (*e2e/ip.IP).whole -/
def ip_IP_whole.Call (p : Option Addr) (i : Int) (w : World) (R : Bool → World → Prop) : Prop :=
  Calls Tryz.prog 153 #[.pointer p, .int .i64 i] w fun e w' => ∃ r, e = .returned (.bool r) ∧ R r w'
theorem ip_IP_whole.Call.mono {p i} {w : World} {R R' : Bool → World → Prop} (h : ip_IP_whole.Call p i w R) (hr : ∀ r w', R r w' → R' r w') : ip_IP_whole.Call p i w R' :=
  Calls.mono h fun e w' he => by
    obtain ⟨r, h1, h2⟩ := he
    exact ⟨r, h1, hr r w' h2⟩
def ip_IP_whole.RV (R : Bool → World → Prop) (v : Value) (w : World) : Prop := match v with
  | .bool r => R r w
  | _ => False
theorem ip_IP_whole.RV_elim {R : Bool → World → Prop} {v : Value} {w : World} (h : ip_IP_whole.RV R v w) : ∃ r, Ending.returned v = .returned (.bool r) ∧ R r w := by
  unfold ip_IP_whole.RV at h
  split at h
  · exact ⟨_, rfl, h⟩
  · exact h.elim
/-- e2e/seg.over -/
def seg_over.Call (src dst : Int) (head_b : Option Addr) (head_l head_c : Nat) (data_b : Option Addr) (data_l data_c : Nat) (w : World) (R : Int → Int → World → Prop) : Prop :=
  Calls Tryz.prog 154 #[.int .i64 src, .int .i64 dst, .slice head_b head_l head_c, .slice data_b data_l data_c] w fun e w' => ∃ r_0 r_1, e = .returned (.agg #[.int .u8 r_0, .int .u8 r_1]) ∧ R r_0 r_1 w'
theorem seg_over.Call.mono {src dst head_b head_l head_c data_b data_l data_c} {w : World} {R R' : Int → Int → World → Prop} (h : seg_over.Call src dst head_b head_l head_c data_b data_l data_c w R) (hr : ∀ r_0 r_1 w', R r_0 r_1 w' → R' r_0 r_1 w') : seg_over.Call src dst head_b head_l head_c data_b data_l data_c w R' :=
  Calls.mono h fun e w' he => by
    obtain ⟨r_0, r_1, h1, h2⟩ := he
    exact ⟨r_0, r_1, h1, hr r_0 r_1 w' h2⟩
def seg_over.RV (R : Int → Int → World → Prop) (v : Value) (w : World) : Prop := match v with
  | .agg ⟨[.int .u8 r_0, .int .u8 r_1]⟩ => R r_0 r_1 w
  | _ => False
theorem seg_over.RV_elim {R : Int → Int → World → Prop} {v : Value} {w : World} (h : seg_over.RV R v w) : ∃ r_0 r_1, Ending.returned v = .returned (.agg #[.int .u8 r_0, .int .u8 r_1]) ∧ R r_0 r_1 w := by
  unfold seg_over.RV at h
  split at h
  · exact ⟨_, _, rfl, h⟩
  · exact h.elim
/-- e2e/sock.hash -/
def sock_hash.Call (lport rhost rport : Int) (w : World) (R : Int → World → Prop) : Prop :=
  Calls Tryz.prog 155 #[.int .i64 lport, .int .i64 rhost, .int .i64 rport] w fun e w' => ∃ r, e = .returned (.int .i64 r) ∧ R r w'
theorem sock_hash.Call.mono {lport rhost rport} {w : World} {R R' : Int → World → Prop} (h : sock_hash.Call lport rhost rport w R) (hr : ∀ r w', R r w' → R' r w') : sock_hash.Call lport rhost rport w R' :=
  Calls.mono h fun e w' he => by
    obtain ⟨r, h1, h2⟩ := he
    exact ⟨r, h1, hr r w' h2⟩
def sock_hash.RV (R : Int → World → Prop) (v : Value) (w : World) : Prop := match v with
  | .int .i64 r => R r w
  | _ => False
theorem sock_hash.RV_elim {R : Int → World → Prop} {v : Value} {w : World} (h : sock_hash.RV R v w) : ∃ r, Ending.returned v = .returned (.int .i64 r) ∧ R r w := by
  unfold sock_hash.RV at h
  split at h
  · exact ⟨_, rfl, h⟩
  · exact h.elim
/-- (*e2e/conn.Conn).Input -/
def conn_Conn_Input.Call (c : Option Addr) (s_0 s_1 s_2 s_3 s_4 s_5 : Int) (s_6_b : Option Addr) (s_6_l s_6_c : Nat) (w : World) (R : Option Addr → Nat → Nat → World → Prop) : Prop :=
  Calls Tryz.prog 156 #[.pointer c, .agg #[.int .i64 s_0, .int .i64 s_1, .int .i64 s_2, .int .i64 s_3, .int .i64 s_4, .int .i64 s_5, .slice s_6_b s_6_l s_6_c]] w fun e w' => ∃ r_b r_l r_c, e = .returned (.slice r_b r_l r_c) ∧ R r_b r_l r_c w'
theorem conn_Conn_Input.Call.mono {c s_0 s_1 s_2 s_3 s_4 s_5 s_6_b s_6_l s_6_c} {w : World} {R R' : Option Addr → Nat → Nat → World → Prop} (h : conn_Conn_Input.Call c s_0 s_1 s_2 s_3 s_4 s_5 s_6_b s_6_l s_6_c w R) (hr : ∀ r_b r_l r_c w', R r_b r_l r_c w' → R' r_b r_l r_c w') : conn_Conn_Input.Call c s_0 s_1 s_2 s_3 s_4 s_5 s_6_b s_6_l s_6_c w R' :=
  Calls.mono h fun e w' he => by
    obtain ⟨r_b, r_l, r_c, h1, h2⟩ := he
    exact ⟨r_b, r_l, r_c, h1, hr r_b r_l r_c w' h2⟩
def conn_Conn_Input.RV (R : Option Addr → Nat → Nat → World → Prop) (v : Value) (w : World) : Prop := match v with
  | .slice r_b r_l r_c => R r_b r_l r_c w
  | _ => False
theorem conn_Conn_Input.RV_elim {R : Option Addr → Nat → Nat → World → Prop} {v : Value} {w : World} (h : conn_Conn_Input.RV R v w) : ∃ r_b r_l r_c, Ending.returned v = .returned (.slice r_b r_l r_c) ∧ R r_b r_l r_c w := by
  unfold conn_Conn_Input.RV at h
  split at h
  · exact ⟨_, _, _, rfl, h⟩
  · exact h.elim
/-- (*e2e/sock.Table).Ready -/
def sock_Table_Ready.Call (t : Option Addr) (sd : Int) (w : World) (R : Int → World → Prop) : Prop :=
  Calls Tryz.prog 157 #[.pointer t, .int .i64 sd] w fun e w' => ∃ r, e = .returned (.int .i64 r) ∧ R r w'
theorem sock_Table_Ready.Call.mono {t sd} {w : World} {R R' : Int → World → Prop} (h : sock_Table_Ready.Call t sd w R) (hr : ∀ r w', R r w' → R' r w') : sock_Table_Ready.Call t sd w R' :=
  Calls.mono h fun e w' he => by
    obtain ⟨r, h1, h2⟩ := he
    exact ⟨r, h1, hr r w' h2⟩
def sock_Table_Ready.RV (R : Int → World → Prop) (v : Value) (w : World) : Prop := match v with
  | .int .i64 r => R r w
  | _ => False
theorem sock_Table_Ready.RV_elim {R : Int → World → Prop} {v : Value} {w : World} (h : sock_Table_Ready.RV R v w) : ∃ r, Ending.returned v = .returned (.int .i64 r) ∧ R r w := by
  unfold sock_Table_Ready.RV at h
  split at h
  · exact ⟨_, rfl, h⟩
  · exact h.elim
/-- (*e2e/sock.Table).listenerRow -/
def sock_Table_listenerRow.Call (t : Option Addr) (lport : Int) (w : World) (R : Int → World → Prop) : Prop :=
  Calls Tryz.prog 158 #[.pointer t, .int .i64 lport] w fun e w' => ∃ r, e = .returned (.int .i64 r) ∧ R r w'
theorem sock_Table_listenerRow.Call.mono {t lport} {w : World} {R R' : Int → World → Prop} (h : sock_Table_listenerRow.Call t lport w R) (hr : ∀ r w', R r w' → R' r w') : sock_Table_listenerRow.Call t lport w R' :=
  Calls.mono h fun e w' he => by
    obtain ⟨r, h1, h2⟩ := he
    exact ⟨r, h1, hr r w' h2⟩
def sock_Table_listenerRow.RV (R : Int → World → Prop) (v : Value) (w : World) : Prop := match v with
  | .int .i64 r => R r w
  | _ => False
theorem sock_Table_listenerRow.RV_elim {R : Int → World → Prop} {v : Value} {w : World} (h : sock_Table_listenerRow.RV R v w) : ∃ r, Ending.returned v = .returned (.int .i64 r) ∧ R r w := by
  unfold sock_Table_listenerRow.RV at h
  split at h
  · exact ⟨_, rfl, h⟩
  · exact h.elim
/-- (*e2e/sock.Table).Child -/
def sock_Table_Child.Call (t : Option Addr) (lport rhost rport : Int) (w : World) (R : Int → Int → World → Prop) : Prop :=
  Calls Tryz.prog 159 #[.pointer t, .int .i64 lport, .int .i64 rhost, .int .i64 rport] w fun e w' => ∃ r0 r1, e = .returned (.tuple #[.int .i64 r0, .int .i64 r1]) ∧ R r0 r1 w'
theorem sock_Table_Child.Call.mono {t lport rhost rport} {w : World} {R R' : Int → Int → World → Prop} (h : sock_Table_Child.Call t lport rhost rport w R) (hr : ∀ r0 r1 w', R r0 r1 w' → R' r0 r1 w') : sock_Table_Child.Call t lport rhost rport w R' :=
  Calls.mono h fun e w' he => by
    obtain ⟨r0, r1, h1, h2⟩ := he
    exact ⟨r0, r1, h1, hr r0 r1 w' h2⟩
def sock_Table_Child.RV (R : Int → Int → World → Prop) (v : Value) (w : World) : Prop := match v with
  | .tuple ⟨[.int .i64 r0, .int .i64 r1]⟩ => R r0 r1 w
  | _ => False
theorem sock_Table_Child.RV_elim {R : Int → Int → World → Prop} {v : Value} {w : World} (h : sock_Table_Child.RV R v w) : ∃ r0 r1, Ending.returned v = .returned (.tuple #[.int .i64 r0, .int .i64 r1]) ∧ R r0 r1 w := by
  unfold sock_Table_Child.RV at h
  split at h
  · exact ⟨_, _, rfl, h⟩
  · exact h.elim
/-- (*e2e/conn.Conn).OpenPassive -/
def conn_Conn_OpenPassive.Call (c : Option Addr) (iss syn_0 syn_1 syn_2 syn_3 syn_4 syn_5 : Int) (syn_6_b : Option Addr) (syn_6_l syn_6_c : Nat) (w : World) (R : Option Addr → Nat → Nat → Int → World → Prop) : Prop :=
  Calls Tryz.prog 160 #[.pointer c, .int .i64 iss, .agg #[.int .i64 syn_0, .int .i64 syn_1, .int .i64 syn_2, .int .i64 syn_3, .int .i64 syn_4, .int .i64 syn_5, .slice syn_6_b syn_6_l syn_6_c]] w fun e w' => ∃ r0_b r0_l r0_c r1, e = .returned (.tuple #[.slice r0_b r0_l r0_c, .int .i64 r1]) ∧ R r0_b r0_l r0_c r1 w'
theorem conn_Conn_OpenPassive.Call.mono {c iss syn_0 syn_1 syn_2 syn_3 syn_4 syn_5 syn_6_b syn_6_l syn_6_c} {w : World} {R R' : Option Addr → Nat → Nat → Int → World → Prop} (h : conn_Conn_OpenPassive.Call c iss syn_0 syn_1 syn_2 syn_3 syn_4 syn_5 syn_6_b syn_6_l syn_6_c w R) (hr : ∀ r0_b r0_l r0_c r1 w', R r0_b r0_l r0_c r1 w' → R' r0_b r0_l r0_c r1 w') : conn_Conn_OpenPassive.Call c iss syn_0 syn_1 syn_2 syn_3 syn_4 syn_5 syn_6_b syn_6_l syn_6_c w R' :=
  Calls.mono h fun e w' he => by
    obtain ⟨r0_b, r0_l, r0_c, r1, h1, h2⟩ := he
    exact ⟨r0_b, r0_l, r0_c, r1, h1, hr r0_b r0_l r0_c r1 w' h2⟩
def conn_Conn_OpenPassive.RV (R : Option Addr → Nat → Nat → Int → World → Prop) (v : Value) (w : World) : Prop := match v with
  | .tuple ⟨[.slice r0_b r0_l r0_c, .int .i64 r1]⟩ => R r0_b r0_l r0_c r1 w
  | _ => False
theorem conn_Conn_OpenPassive.RV_elim {R : Option Addr → Nat → Nat → Int → World → Prop} {v : Value} {w : World} (h : conn_Conn_OpenPassive.RV R v w) : ∃ r0_b r0_l r0_c r1, Ending.returned v = .returned (.tuple #[.slice r0_b r0_l r0_c, .int .i64 r1]) ∧ R r0_b r0_l r0_c r1 w := by
  unfold conn_Conn_OpenPassive.RV at h
  split at h
  · exact ⟨_, _, _, _, rfl, h⟩
  · exact h.elim
/-- e2e/seg.Encode -/
def seg_Encode.Call (src dst s_0 s_1 s_2 s_3 s_4 s_5 : Int) (s_6_b : Option Addr) (s_6_l s_6_c : Nat) (w : World) (R : Option Addr → Nat → Nat → Int → World → Prop) : Prop :=
  Calls Tryz.prog 161 #[.int .i64 src, .int .i64 dst, .agg #[.int .i64 s_0, .int .i64 s_1, .int .i64 s_2, .int .i64 s_3, .int .i64 s_4, .int .i64 s_5, .slice s_6_b s_6_l s_6_c]] w fun e w' => ∃ r0_b r0_l r0_c r1, e = .returned (.tuple #[.slice r0_b r0_l r0_c, .int .i64 r1]) ∧ R r0_b r0_l r0_c r1 w'
theorem seg_Encode.Call.mono {src dst s_0 s_1 s_2 s_3 s_4 s_5 s_6_b s_6_l s_6_c} {w : World} {R R' : Option Addr → Nat → Nat → Int → World → Prop} (h : seg_Encode.Call src dst s_0 s_1 s_2 s_3 s_4 s_5 s_6_b s_6_l s_6_c w R) (hr : ∀ r0_b r0_l r0_c r1 w', R r0_b r0_l r0_c r1 w' → R' r0_b r0_l r0_c r1 w') : seg_Encode.Call src dst s_0 s_1 s_2 s_3 s_4 s_5 s_6_b s_6_l s_6_c w R' :=
  Calls.mono h fun e w' he => by
    obtain ⟨r0_b, r0_l, r0_c, r1, h1, h2⟩ := he
    exact ⟨r0_b, r0_l, r0_c, r1, h1, hr r0_b r0_l r0_c r1 w' h2⟩
def seg_Encode.RV (R : Option Addr → Nat → Nat → Int → World → Prop) (v : Value) (w : World) : Prop := match v with
  | .tuple ⟨[.slice r0_b r0_l r0_c, .int .i64 r1]⟩ => R r0_b r0_l r0_c r1 w
  | _ => False
theorem seg_Encode.RV_elim {R : Option Addr → Nat → Nat → Int → World → Prop} {v : Value} {w : World} (h : seg_Encode.RV R v w) : ∃ r0_b r0_l r0_c r1, Ending.returned v = .returned (.tuple #[.slice r0_b r0_l r0_c, .int .i64 r1]) ∧ R r0_b r0_l r0_c r1 w := by
  unfold seg_Encode.RV at h
  split at h
  · exact ⟨_, _, _, _, rfl, h⟩
  · exact h.elim
/-- (*e2e/ip.IP).Output -/
def ip_IP_Output.Call (p : Option Addr) (dst proto : Int) (data_b : Option Addr) (data_l data_c : Nat) (w : World) (R : Option Addr → Nat → Nat → Int → World → Prop) : Prop :=
  Calls Tryz.prog 162 #[.pointer p, .int .i64 dst, .int .i64 proto, .slice data_b data_l data_c] w fun e w' => ∃ r0_b r0_l r0_c r1, e = .returned (.tuple #[.slice r0_b r0_l r0_c, .int .i64 r1]) ∧ R r0_b r0_l r0_c r1 w'
theorem ip_IP_Output.Call.mono {p dst proto data_b data_l data_c} {w : World} {R R' : Option Addr → Nat → Nat → Int → World → Prop} (h : ip_IP_Output.Call p dst proto data_b data_l data_c w R) (hr : ∀ r0_b r0_l r0_c r1 w', R r0_b r0_l r0_c r1 w' → R' r0_b r0_l r0_c r1 w') : ip_IP_Output.Call p dst proto data_b data_l data_c w R' :=
  Calls.mono h fun e w' he => by
    obtain ⟨r0_b, r0_l, r0_c, r1, h1, h2⟩ := he
    exact ⟨r0_b, r0_l, r0_c, r1, h1, hr r0_b r0_l r0_c r1 w' h2⟩
def ip_IP_Output.RV (R : Option Addr → Nat → Nat → Int → World → Prop) (v : Value) (w : World) : Prop := match v with
  | .tuple ⟨[.slice r0_b r0_l r0_c, .int .i64 r1]⟩ => R r0_b r0_l r0_c r1 w
  | _ => False
theorem ip_IP_Output.RV_elim {R : Option Addr → Nat → Nat → Int → World → Prop} {v : Value} {w : World} (h : ip_IP_Output.RV R v w) : ∃ r0_b r0_l r0_c r1, Ending.returned v = .returned (.tuple #[.slice r0_b r0_l r0_c, .int .i64 r1]) ∧ R r0_b r0_l r0_c r1 w := by
  unfold ip_IP_Output.RV at h
  split at h
  · exact ⟨_, _, _, _, rfl, h⟩
  · exact h.elim
/-- (*e2e/frame.Link).Encode -/
def frame_Link_Encode.Call (l : Option Addr) (dst typ : Int) (payload_b : Option Addr) (payload_l payload_c : Nat) (w : World) (R : Option Addr → Nat → Nat → Int → World → Prop) : Prop :=
  Calls Tryz.prog 163 #[.pointer l, .int .i64 dst, .int .i64 typ, .slice payload_b payload_l payload_c] w fun e w' => ∃ r0_b r0_l r0_c r1, e = .returned (.tuple #[.slice r0_b r0_l r0_c, .int .i64 r1]) ∧ R r0_b r0_l r0_c r1 w'
theorem frame_Link_Encode.Call.mono {l dst typ payload_b payload_l payload_c} {w : World} {R R' : Option Addr → Nat → Nat → Int → World → Prop} (h : frame_Link_Encode.Call l dst typ payload_b payload_l payload_c w R) (hr : ∀ r0_b r0_l r0_c r1 w', R r0_b r0_l r0_c r1 w' → R' r0_b r0_l r0_c r1 w') : frame_Link_Encode.Call l dst typ payload_b payload_l payload_c w R' :=
  Calls.mono h fun e w' he => by
    obtain ⟨r0_b, r0_l, r0_c, r1, h1, h2⟩ := he
    exact ⟨r0_b, r0_l, r0_c, r1, h1, hr r0_b r0_l r0_c r1 w' h2⟩
def frame_Link_Encode.RV (R : Option Addr → Nat → Nat → Int → World → Prop) (v : Value) (w : World) : Prop := match v with
  | .tuple ⟨[.slice r0_b r0_l r0_c, .int .i64 r1]⟩ => R r0_b r0_l r0_c r1 w
  | _ => False
theorem frame_Link_Encode.RV_elim {R : Option Addr → Nat → Nat → Int → World → Prop} {v : Value} {w : World} (h : frame_Link_Encode.RV R v w) : ∃ r0_b r0_l r0_c r1, Ending.returned v = .returned (.tuple #[.slice r0_b r0_l r0_c, .int .i64 r1]) ∧ R r0_b r0_l r0_c r1 w := by
  unfold frame_Link_Encode.RV at h
  split at h
  · exact ⟨_, _, _, _, rfl, h⟩
  · exact h.elim
/-- (*e2e/conn.Conn).wipe -/
def conn_Conn_wipe.Call (c : Option Addr) (w : World) (R : World → Prop) : Prop :=
  Calls Tryz.prog 164 #[.pointer c] w fun e w' => e = .returned (.tuple #[]) ∧ R w'
theorem conn_Conn_wipe.Call.mono {c} {w : World} {R R' : World → Prop} (h : conn_Conn_wipe.Call c w R) (hr : ∀ w', R w' → R'  w') : conn_Conn_wipe.Call c w R' :=
  Calls.mono h fun e w' he => by
    obtain ⟨h1, h2⟩ := he
    exact ⟨h1, hr  w' h2⟩
def conn_Conn_wipe.RV (R : World → Prop) (v : Value) (w : World) : Prop := match v with
  | .tuple ⟨[]⟩ => R w
  | _ => False
theorem conn_Conn_wipe.RV_elim {R : World → Prop} {v : Value} {w : World} (h : conn_Conn_wipe.RV R v w) : Ending.returned v = .returned (.tuple #[]) ∧ R w := by
  unfold conn_Conn_wipe.RV at h
  split at h
  · exact ⟨rfl, h⟩
  · exact h.elim
/-- (*e2e/conn.Conn).fail -/
def conn_Conn_fail.Call (c : Option Addr) (why : Int) (w : World) (R : World → Prop) : Prop :=
  Calls Tryz.prog 165 #[.pointer c, .int .i64 why] w fun e w' => e = .returned (.tuple #[]) ∧ R w'
theorem conn_Conn_fail.Call.mono {c why} {w : World} {R R' : World → Prop} (h : conn_Conn_fail.Call c why w R) (hr : ∀ w', R w' → R'  w') : conn_Conn_fail.Call c why w R' :=
  Calls.mono h fun e w' he => by
    obtain ⟨h1, h2⟩ := he
    exact ⟨h1, hr  w' h2⟩
def conn_Conn_fail.RV (R : World → Prop) (v : Value) (w : World) : Prop := match v with
  | .tuple ⟨[]⟩ => R w
  | _ => False
theorem conn_Conn_fail.RV_elim {R : World → Prop} {v : Value} {w : World} (h : conn_Conn_fail.RV R v w) : Ending.returned v = .returned (.tuple #[]) ∧ R w := by
  unfold conn_Conn_fail.RV at h
  split at h
  · exact ⟨rfl, h⟩
  · exact h.elim
/-- (*e2e/conn.Conn).arm -/
def conn_Conn_arm.Call (c : Option Addr) (w : World) (R : World → Prop) : Prop :=
  Calls Tryz.prog 166 #[.pointer c] w fun e w' => e = .returned (.tuple #[]) ∧ R w'
theorem conn_Conn_arm.Call.mono {c} {w : World} {R R' : World → Prop} (h : conn_Conn_arm.Call c w R) (hr : ∀ w', R w' → R'  w') : conn_Conn_arm.Call c w R' :=
  Calls.mono h fun e w' he => by
    obtain ⟨h1, h2⟩ := he
    exact ⟨h1, hr  w' h2⟩
def conn_Conn_arm.RV (R : World → Prop) (v : Value) (w : World) : Prop := match v with
  | .tuple ⟨[]⟩ => R w
  | _ => False
theorem conn_Conn_arm.RV_elim {R : World → Prop} {v : Value} {w : World} (h : conn_Conn_arm.RV R v w) : Ending.returned v = .returned (.tuple #[]) ∧ R w := by
  unfold conn_Conn_arm.RV at h
  split at h
  · exact ⟨rfl, h⟩
  · exact h.elim
/-- (*e2e/conn.Conn).again -/
def conn_Conn_again.Call (c : Option Addr) (w : World) (R : Int → Int → Int → Int → Int → Int → Option Addr → Nat → Nat → World → Prop) : Prop :=
  Calls Tryz.prog 167 #[.pointer c] w fun e w' => ∃ r_0 r_1 r_2 r_3 r_4 r_5 r_6_b r_6_l r_6_c, e = .returned (.agg #[.int .i64 r_0, .int .i64 r_1, .int .i64 r_2, .int .i64 r_3, .int .i64 r_4, .int .i64 r_5, .slice r_6_b r_6_l r_6_c]) ∧ R r_0 r_1 r_2 r_3 r_4 r_5 r_6_b r_6_l r_6_c w'
theorem conn_Conn_again.Call.mono {c} {w : World} {R R' : Int → Int → Int → Int → Int → Int → Option Addr → Nat → Nat → World → Prop} (h : conn_Conn_again.Call c w R) (hr : ∀ r_0 r_1 r_2 r_3 r_4 r_5 r_6_b r_6_l r_6_c w', R r_0 r_1 r_2 r_3 r_4 r_5 r_6_b r_6_l r_6_c w' → R' r_0 r_1 r_2 r_3 r_4 r_5 r_6_b r_6_l r_6_c w') : conn_Conn_again.Call c w R' :=
  Calls.mono h fun e w' he => by
    obtain ⟨r_0, r_1, r_2, r_3, r_4, r_5, r_6_b, r_6_l, r_6_c, h1, h2⟩ := he
    exact ⟨r_0, r_1, r_2, r_3, r_4, r_5, r_6_b, r_6_l, r_6_c, h1, hr r_0 r_1 r_2 r_3 r_4 r_5 r_6_b r_6_l r_6_c w' h2⟩
def conn_Conn_again.RV (R : Int → Int → Int → Int → Int → Int → Option Addr → Nat → Nat → World → Prop) (v : Value) (w : World) : Prop := match v with
  | .agg ⟨[.int .i64 r_0, .int .i64 r_1, .int .i64 r_2, .int .i64 r_3, .int .i64 r_4, .int .i64 r_5, .slice r_6_b r_6_l r_6_c]⟩ => R r_0 r_1 r_2 r_3 r_4 r_5 r_6_b r_6_l r_6_c w
  | _ => False
theorem conn_Conn_again.RV_elim {R : Int → Int → Int → Int → Int → Int → Option Addr → Nat → Nat → World → Prop} {v : Value} {w : World} (h : conn_Conn_again.RV R v w) : ∃ r_0 r_1 r_2 r_3 r_4 r_5 r_6_b r_6_l r_6_c, Ending.returned v = .returned (.agg #[.int .i64 r_0, .int .i64 r_1, .int .i64 r_2, .int .i64 r_3, .int .i64 r_4, .int .i64 r_5, .slice r_6_b r_6_l r_6_c]) ∧ R r_0 r_1 r_2 r_3 r_4 r_5 r_6_b r_6_l r_6_c w := by
  unfold conn_Conn_again.RV at h
  split at h
  · exact ⟨_, _, _, _, _, _, _, _, _, rfl, h⟩
  · exact h.elim
/-- (*e2e/conn.Conn).pump -/
def conn_Conn_pump.Call (c : Option Addr) (w : World) (R : Option Addr → Nat → Nat → World → Prop) : Prop :=
  Calls Tryz.prog 168 #[.pointer c] w fun e w' => ∃ r_b r_l r_c, e = .returned (.slice r_b r_l r_c) ∧ R r_b r_l r_c w'
theorem conn_Conn_pump.Call.mono {c} {w : World} {R R' : Option Addr → Nat → Nat → World → Prop} (h : conn_Conn_pump.Call c w R) (hr : ∀ r_b r_l r_c w', R r_b r_l r_c w' → R' r_b r_l r_c w') : conn_Conn_pump.Call c w R' :=
  Calls.mono h fun e w' he => by
    obtain ⟨r_b, r_l, r_c, h1, h2⟩ := he
    exact ⟨r_b, r_l, r_c, h1, hr r_b r_l r_c w' h2⟩
def conn_Conn_pump.RV (R : Option Addr → Nat → Nat → World → Prop) (v : Value) (w : World) : Prop := match v with
  | .slice r_b r_l r_c => R r_b r_l r_c w
  | _ => False
theorem conn_Conn_pump.RV_elim {R : Option Addr → Nat → Nat → World → Prop} {v : Value} {w : World} (h : conn_Conn_pump.RV R v w) : ∃ r_b r_l r_c, Ending.returned v = .returned (.slice r_b r_l r_c) ∧ R r_b r_l r_c w := by
  unfold conn_Conn_pump.RV at h
  split at h
  · exact ⟨_, _, _, rfl, h⟩
  · exact h.elim
/-- (*e2e/sock.Table).unlink -/
def sock_Table_unlink.Call (t : Option Addr) (i : Int) (w : World) (R : World → Prop) : Prop :=
  Calls Tryz.prog 169 #[.pointer t, .int .i64 i] w fun e w' => e = .returned (.tuple #[]) ∧ R w'
theorem sock_Table_unlink.Call.mono {t i} {w : World} {R R' : World → Prop} (h : sock_Table_unlink.Call t i w R) (hr : ∀ w', R w' → R'  w') : sock_Table_unlink.Call t i w R' :=
  Calls.mono h fun e w' he => by
    obtain ⟨h1, h2⟩ := he
    exact ⟨h1, hr  w' h2⟩
def sock_Table_unlink.RV (R : World → Prop) (v : Value) (w : World) : Prop := match v with
  | .tuple ⟨[]⟩ => R w
  | _ => False
theorem sock_Table_unlink.RV_elim {R : World → Prop} {v : Value} {w : World} (h : sock_Table_unlink.RV R v w) : Ending.returned v = .returned (.tuple #[]) ∧ R w := by
  unfold sock_Table_unlink.RV at h
  split at h
  · exact ⟨rfl, h⟩
  · exact h.elim
/-- e2e/sock.bitOf -/
def sock_bitOf.Call (s : Int) (w : World) (R : Int → World → Prop) : Prop :=
  Calls Tryz.prog 170 #[.int .i64 s] w fun e w' => ∃ r, e = .returned (.int .u8 r) ∧ R r w'
theorem sock_bitOf.Call.mono {s} {w : World} {R R' : Int → World → Prop} (h : sock_bitOf.Call s w R) (hr : ∀ r w', R r w' → R' r w') : sock_bitOf.Call s w R' :=
  Calls.mono h fun e w' he => by
    obtain ⟨r, h1, h2⟩ := he
    exact ⟨r, h1, hr r w' h2⟩
def sock_bitOf.RV (R : Int → World → Prop) (v : Value) (w : World) : Prop := match v with
  | .int .u8 r => R r w
  | _ => False
theorem sock_bitOf.RV_elim {R : Int → World → Prop} {v : Value} {w : World} (h : sock_bitOf.RV R v w) : ∃ r, Ending.returned v = .returned (.int .u8 r) ∧ R r w := by
  unfold sock_bitOf.RV at h
  split at h
  · exact ⟨_, rfl, h⟩
  · exact h.elim
/-- (*e2e/sock.Table).orphan -/
def sock_Table_orphan.Call (t : Option Addr) (i : Int) (w : World) (R : World → Prop) : Prop :=
  Calls Tryz.prog 171 #[.pointer t, .int .i64 i] w fun e w' => e = .returned (.tuple #[]) ∧ R w'
theorem sock_Table_orphan.Call.mono {t i} {w : World} {R R' : World → Prop} (h : sock_Table_orphan.Call t i w R) (hr : ∀ w', R w' → R'  w') : sock_Table_orphan.Call t i w R' :=
  Calls.mono h fun e w' he => by
    obtain ⟨h1, h2⟩ := he
    exact ⟨h1, hr  w' h2⟩
def sock_Table_orphan.RV (R : World → Prop) (v : Value) (w : World) : Prop := match v with
  | .tuple ⟨[]⟩ => R w
  | _ => False
theorem sock_Table_orphan.RV_elim {R : World → Prop} {v : Value} {w : World} (h : sock_Table_orphan.RV R v w) : Ending.returned v = .returned (.tuple #[]) ∧ R w := by
  unfold sock_Table_orphan.RV at h
  split at h
  · exact ⟨rfl, h⟩
  · exact h.elim
/-- (*e2e/sock.Table).give -/
def sock_Table_give.Call (t : Option Addr) (i : Int) (w : World) (R : World → Prop) : Prop :=
  Calls Tryz.prog 172 #[.pointer t, .int .i64 i] w fun e w' => e = .returned (.tuple #[]) ∧ R w'
theorem sock_Table_give.Call.mono {t i} {w : World} {R R' : World → Prop} (h : sock_Table_give.Call t i w R) (hr : ∀ w', R w' → R'  w') : sock_Table_give.Call t i w R' :=
  Calls.mono h fun e w' he => by
    obtain ⟨h1, h2⟩ := he
    exact ⟨h1, hr  w' h2⟩
def sock_Table_give.RV (R : World → Prop) (v : Value) (w : World) : Prop := match v with
  | .tuple ⟨[]⟩ => R w
  | _ => False
theorem sock_Table_give.RV_elim {R : World → Prop} {v : Value} {w : World} (h : sock_Table_give.RV R v w) : Ending.returned v = .returned (.tuple #[]) ∧ R w := by
  unfold sock_Table_give.RV at h
  split at h
  · exact ⟨rfl, h⟩
  · exact h.elim
/-- (*e2e/sock.Table).take -/
def sock_Table_take.Call (t : Option Addr) (w : World) (R : Int → World → Prop) : Prop :=
  Calls Tryz.prog 173 #[.pointer t] w fun e w' => ∃ r, e = .returned (.int .i64 r) ∧ R r w'
theorem sock_Table_take.Call.mono {t} {w : World} {R R' : Int → World → Prop} (h : sock_Table_take.Call t w R) (hr : ∀ r w', R r w' → R' r w') : sock_Table_take.Call t w R' :=
  Calls.mono h fun e w' he => by
    obtain ⟨r, h1, h2⟩ := he
    exact ⟨r, h1, hr r w' h2⟩
def sock_Table_take.RV (R : Int → World → Prop) (v : Value) (w : World) : Prop := match v with
  | .int .i64 r => R r w
  | _ => False
theorem sock_Table_take.RV_elim {R : Int → World → Prop} {v : Value} {w : World} (h : sock_Table_take.RV R v w) : ∃ r, Ending.returned v = .returned (.int .i64 r) ∧ R r w := by
  unfold sock_Table_take.RV at h
  split at h
  · exact ⟨_, rfl, h⟩
  · exact h.elim
/-- (*e2e/sock.Table).lowBlock -/
def sock_Table_lowBlock.Call (t : Option Addr) (w : World) (R : Int → World → Prop) : Prop :=
  Calls Tryz.prog 174 #[.pointer t] w fun e w' => ∃ r, e = .returned (.int .i64 r) ∧ R r w'
theorem sock_Table_lowBlock.Call.mono {t} {w : World} {R R' : Int → World → Prop} (h : sock_Table_lowBlock.Call t w R) (hr : ∀ r w', R r w' → R' r w') : sock_Table_lowBlock.Call t w R' :=
  Calls.mono h fun e w' he => by
    obtain ⟨r, h1, h2⟩ := he
    exact ⟨r, h1, hr r w' h2⟩
def sock_Table_lowBlock.RV (R : Int → World → Prop) (v : Value) (w : World) : Prop := match v with
  | .int .i64 r => R r w
  | _ => False
theorem sock_Table_lowBlock.RV_elim {R : Int → World → Prop} {v : Value} {w : World} (h : sock_Table_lowBlock.RV R v w) : ∃ r, Ending.returned v = .returned (.int .i64 r) ∧ R r w := by
  unfold sock_Table_lowBlock.RV at h
  split at h
  · exact ⟨_, rfl, h⟩
  · exact h.elim
/-- e2e/sock.nextEph -/
def sock_nextEph.Call (p : Int) (w : World) (R : Int → World → Prop) : Prop :=
  Calls Tryz.prog 175 #[.int .i64 p] w fun e w' => ∃ r, e = .returned (.int .i64 r) ∧ R r w'
theorem sock_nextEph.Call.mono {p} {w : World} {R R' : Int → World → Prop} (h : sock_nextEph.Call p w R) (hr : ∀ r w', R r w' → R' r w') : sock_nextEph.Call p w R' :=
  Calls.mono h fun e w' he => by
    obtain ⟨r, h1, h2⟩ := he
    exact ⟨r, h1, hr r w' h2⟩
def sock_nextEph.RV (R : Int → World → Prop) (v : Value) (w : World) : Prop := match v with
  | .int .i64 r => R r w
  | _ => False
theorem sock_nextEph.RV_elim {R : Int → World → Prop} {v : Value} {w : World} (h : sock_nextEph.RV R v w) : ∃ r, Ending.returned v = .returned (.int .i64 r) ∧ R r w := by
  unfold sock_nextEph.RV at h
  split at h
  · exact ⟨_, rfl, h⟩
  · exact h.elim
/-- (*e2e/sock.Table).conn -/
def sock_Table_conn.Call (t : Option Addr) (lport rhost rport slot parent : Int) (w : World) (R : Int → World → Prop) : Prop :=
  Calls Tryz.prog 176 #[.pointer t, .int .i64 lport, .int .i64 rhost, .int .i64 rport, .int .i64 slot, .int .i64 parent] w fun e w' => ∃ r, e = .returned (.int .i64 r) ∧ R r w'
theorem sock_Table_conn.Call.mono {t lport rhost rport slot parent} {w : World} {R R' : Int → World → Prop} (h : sock_Table_conn.Call t lport rhost rport slot parent w R) (hr : ∀ r w', R r w' → R' r w') : sock_Table_conn.Call t lport rhost rport slot parent w R' :=
  Calls.mono h fun e w' he => by
    obtain ⟨r, h1, h2⟩ := he
    exact ⟨r, h1, hr r w' h2⟩
def sock_Table_conn.RV (R : Int → World → Prop) (v : Value) (w : World) : Prop := match v with
  | .int .i64 r => R r w
  | _ => False
theorem sock_Table_conn.RV_elim {R : Int → World → Prop} {v : Value} {w : World} (h : sock_Table_conn.RV R v w) : ∃ r, Ending.returned v = .returned (.int .i64 r) ∧ R r w := by
  unfold sock_Table_conn.RV at h
  split at h
  · exact ⟨_, rfl, h⟩
  · exact h.elim
/-- (*e2e/conn.Conn).begin -/
def conn_Conn_begin.Call (c : Option Addr) (st iss : Int) (w : World) (R : World → Prop) : Prop :=
  Calls Tryz.prog 177 #[.pointer c, .int .i64 st, .int .i64 iss] w fun e w' => e = .returned (.tuple #[]) ∧ R w'
theorem conn_Conn_begin.Call.mono {c st iss} {w : World} {R R' : World → Prop} (h : conn_Conn_begin.Call c st iss w R) (hr : ∀ w', R w' → R'  w') : conn_Conn_begin.Call c st iss w R' :=
  Calls.mono h fun e w' he => by
    obtain ⟨h1, h2⟩ := he
    exact ⟨h1, hr  w' h2⟩
def conn_Conn_begin.RV (R : World → Prop) (v : Value) (w : World) : Prop := match v with
  | .tuple ⟨[]⟩ => R w
  | _ => False
theorem conn_Conn_begin.RV_elim {R : World → Prop} {v : Value} {w : World} (h : conn_Conn_begin.RV R v w) : Ending.returned v = .returned (.tuple #[]) ∧ R w := by
  unfold conn_Conn_begin.RV at h
  split at h
  · exact ⟨rfl, h⟩
  · exact h.elim
/-- e2e/conn.one -/
def conn_one.Call (s_0 s_1 s_2 s_3 s_4 s_5 : Int) (s_6_b : Option Addr) (s_6_l s_6_c : Nat) (w : World) (R : Option Addr → Nat → Nat → World → Prop) : Prop :=
  Calls Tryz.prog 178 #[.agg #[.int .i64 s_0, .int .i64 s_1, .int .i64 s_2, .int .i64 s_3, .int .i64 s_4, .int .i64 s_5, .slice s_6_b s_6_l s_6_c]] w fun e w' => ∃ r_b r_l r_c, e = .returned (.slice r_b r_l r_c) ∧ R r_b r_l r_c w'
theorem conn_one.Call.mono {s_0 s_1 s_2 s_3 s_4 s_5 s_6_b s_6_l s_6_c} {w : World} {R R' : Option Addr → Nat → Nat → World → Prop} (h : conn_one.Call s_0 s_1 s_2 s_3 s_4 s_5 s_6_b s_6_l s_6_c w R) (hr : ∀ r_b r_l r_c w', R r_b r_l r_c w' → R' r_b r_l r_c w') : conn_one.Call s_0 s_1 s_2 s_3 s_4 s_5 s_6_b s_6_l s_6_c w R' :=
  Calls.mono h fun e w' he => by
    obtain ⟨r_b, r_l, r_c, h1, h2⟩ := he
    exact ⟨r_b, r_l, r_c, h1, hr r_b r_l r_c w' h2⟩
def conn_one.RV (R : Option Addr → Nat → Nat → World → Prop) (v : Value) (w : World) : Prop := match v with
  | .slice r_b r_l r_c => R r_b r_l r_c w
  | _ => False
theorem conn_one.RV_elim {R : Option Addr → Nat → Nat → World → Prop} {v : Value} {w : World} (h : conn_one.RV R v w) : ∃ r_b r_l r_c, Ending.returned v = .returned (.slice r_b r_l r_c) ∧ R r_b r_l r_c w := by
  unfold conn_one.RV at h
  split at h
  · exact ⟨_, _, _, rfl, h⟩
  · exact h.elim
/-- (*e2e/sock.Table).dequeue -/
def sock_Table_dequeue.Call (t : Option Addr) (l : Int) (w : World) (R : Int → World → Prop) : Prop :=
  Calls Tryz.prog 179 #[.pointer t, .int .i64 l] w fun e w' => ∃ r, e = .returned (.int .i64 r) ∧ R r w'
theorem sock_Table_dequeue.Call.mono {t l} {w : World} {R R' : Int → World → Prop} (h : sock_Table_dequeue.Call t l w R) (hr : ∀ r w', R r w' → R' r w') : sock_Table_dequeue.Call t l w R' :=
  Calls.mono h fun e w' he => by
    obtain ⟨r, h1, h2⟩ := he
    exact ⟨r, h1, hr r w' h2⟩
def sock_Table_dequeue.RV (R : Int → World → Prop) (v : Value) (w : World) : Prop := match v with
  | .int .i64 r => R r w
  | _ => False
theorem sock_Table_dequeue.RV_elim {R : Int → World → Prop} {v : Value} {w : World} (h : sock_Table_dequeue.RV R v w) : ∃ r, Ending.returned v = .returned (.int .i64 r) ∧ R r w := by
  unfold sock_Table_dequeue.RV at h
  split at h
  · exact ⟨_, rfl, h⟩
  · exact h.elim
/-- (*e2e/conn.Conn).ended -/
def conn_Conn_ended.Call (c : Option Addr) (w : World) (R : Int → World → Prop) : Prop :=
  Calls Tryz.prog 180 #[.pointer c] w fun e w' => ∃ r, e = .returned (.int .i64 r) ∧ R r w'
theorem conn_Conn_ended.Call.mono {c} {w : World} {R R' : Int → World → Prop} (h : conn_Conn_ended.Call c w R) (hr : ∀ r w', R r w' → R' r w') : conn_Conn_ended.Call c w R' :=
  Calls.mono h fun e w' he => by
    obtain ⟨r, h1, h2⟩ := he
    exact ⟨r, h1, hr r w' h2⟩
def conn_Conn_ended.RV (R : Int → World → Prop) (v : Value) (w : World) : Prop := match v with
  | .int .i64 r => R r w
  | _ => False
theorem conn_Conn_ended.RV_elim {R : Int → World → Prop} {v : Value} {w : World} (h : conn_Conn_ended.RV R v w) : ∃ r, Ending.returned v = .returned (.int .i64 r) ∧ R r w := by
  unfold conn_Conn_ended.RV at h
  split at h
  · exact ⟨_, rfl, h⟩
  · exact h.elim
/-- (*e2e/seg.SendBuf).Put -/
def seg_SendBuf_Put.Call (b p_b : Option Addr) (p_l p_c : Nat) (w : World) (R : Int → World → Prop) : Prop :=
  Calls Tryz.prog 181 #[.pointer b, .slice p_b p_l p_c] w fun e w' => ∃ r, e = .returned (.int .i64 r) ∧ R r w'
theorem seg_SendBuf_Put.Call.mono {b p_b p_l p_c} {w : World} {R R' : Int → World → Prop} (h : seg_SendBuf_Put.Call b p_b p_l p_c w R) (hr : ∀ r w', R r w' → R' r w') : seg_SendBuf_Put.Call b p_b p_l p_c w R' :=
  Calls.mono h fun e w' he => by
    obtain ⟨r, h1, h2⟩ := he
    exact ⟨r, h1, hr r w' h2⟩
def seg_SendBuf_Put.RV (R : Int → World → Prop) (v : Value) (w : World) : Prop := match v with
  | .int .i64 r => R r w
  | _ => False
theorem seg_SendBuf_Put.RV_elim {R : Int → World → Prop} {v : Value} {w : World} (h : seg_SendBuf_Put.RV R v w) : ∃ r, Ending.returned v = .returned (.int .i64 r) ∧ R r w := by
  unfold seg_SendBuf_Put.RV at h
  split at h
  · exact ⟨_, rfl, h⟩
  · exact h.elim
/-- (*e2e/seg.RecvBuf).Read -/
def seg_RecvBuf_Read.Call (b : Option Addr) (max : Int) (w : World) (R : Option Addr → Nat → Nat → World → Prop) : Prop :=
  Calls Tryz.prog 182 #[.pointer b, .int .i64 max] w fun e w' => ∃ r_b r_l r_c, e = .returned (.slice r_b r_l r_c) ∧ R r_b r_l r_c w'
theorem seg_RecvBuf_Read.Call.mono {b max} {w : World} {R R' : Option Addr → Nat → Nat → World → Prop} (h : seg_RecvBuf_Read.Call b max w R) (hr : ∀ r_b r_l r_c w', R r_b r_l r_c w' → R' r_b r_l r_c w') : seg_RecvBuf_Read.Call b max w R' :=
  Calls.mono h fun e w' he => by
    obtain ⟨r_b, r_l, r_c, h1, h2⟩ := he
    exact ⟨r_b, r_l, r_c, h1, hr r_b r_l r_c w' h2⟩
def seg_RecvBuf_Read.RV (R : Option Addr → Nat → Nat → World → Prop) (v : Value) (w : World) : Prop := match v with
  | .slice r_b r_l r_c => R r_b r_l r_c w
  | _ => False
theorem seg_RecvBuf_Read.RV_elim {R : Option Addr → Nat → Nat → World → Prop} {v : Value} {w : World} (h : seg_RecvBuf_Read.RV R v w) : ∃ r_b r_l r_c, Ending.returned v = .returned (.slice r_b r_l r_c) ∧ R r_b r_l r_c w := by
  unfold seg_RecvBuf_Read.RV at h
  split at h
  · exact ⟨_, _, _, rfl, h⟩
  · exact h.elim
/-- (*e2e/conn.Conn).ack -/
def conn_Conn_ack.Call (c : Option Addr) (w : World) (R : Int → Int → Int → Int → Int → Int → Option Addr → Nat → Nat → World → Prop) : Prop :=
  Calls Tryz.prog 183 #[.pointer c] w fun e w' => ∃ r_0 r_1 r_2 r_3 r_4 r_5 r_6_b r_6_l r_6_c, e = .returned (.agg #[.int .i64 r_0, .int .i64 r_1, .int .i64 r_2, .int .i64 r_3, .int .i64 r_4, .int .i64 r_5, .slice r_6_b r_6_l r_6_c]) ∧ R r_0 r_1 r_2 r_3 r_4 r_5 r_6_b r_6_l r_6_c w'
theorem conn_Conn_ack.Call.mono {c} {w : World} {R R' : Int → Int → Int → Int → Int → Int → Option Addr → Nat → Nat → World → Prop} (h : conn_Conn_ack.Call c w R) (hr : ∀ r_0 r_1 r_2 r_3 r_4 r_5 r_6_b r_6_l r_6_c w', R r_0 r_1 r_2 r_3 r_4 r_5 r_6_b r_6_l r_6_c w' → R' r_0 r_1 r_2 r_3 r_4 r_5 r_6_b r_6_l r_6_c w') : conn_Conn_ack.Call c w R' :=
  Calls.mono h fun e w' he => by
    obtain ⟨r_0, r_1, r_2, r_3, r_4, r_5, r_6_b, r_6_l, r_6_c, h1, h2⟩ := he
    exact ⟨r_0, r_1, r_2, r_3, r_4, r_5, r_6_b, r_6_l, r_6_c, h1, hr r_0 r_1 r_2 r_3 r_4 r_5 r_6_b r_6_l r_6_c w' h2⟩
def conn_Conn_ack.RV (R : Int → Int → Int → Int → Int → Int → Option Addr → Nat → Nat → World → Prop) (v : Value) (w : World) : Prop := match v with
  | .agg ⟨[.int .i64 r_0, .int .i64 r_1, .int .i64 r_2, .int .i64 r_3, .int .i64 r_4, .int .i64 r_5, .slice r_6_b r_6_l r_6_c]⟩ => R r_0 r_1 r_2 r_3 r_4 r_5 r_6_b r_6_l r_6_c w
  | _ => False
theorem conn_Conn_ack.RV_elim {R : Int → Int → Int → Int → Int → Int → Option Addr → Nat → Nat → World → Prop} {v : Value} {w : World} (h : conn_Conn_ack.RV R v w) : ∃ r_0 r_1 r_2 r_3 r_4 r_5 r_6_b r_6_l r_6_c, Ending.returned v = .returned (.agg #[.int .i64 r_0, .int .i64 r_1, .int .i64 r_2, .int .i64 r_3, .int .i64 r_4, .int .i64 r_5, .slice r_6_b r_6_l r_6_c]) ∧ R r_0 r_1 r_2 r_3 r_4 r_5 r_6_b r_6_l r_6_c w := by
  unfold conn_Conn_ack.RV at h
  split at h
  · exact ⟨_, _, _, _, _, _, _, _, _, rfl, h⟩
  · exact h.elim
/-- e2e/conn.rst -/
def conn_rst.Call (seq : Int) (w : World) (R : Int → Int → Int → Int → Int → Int → Option Addr → Nat → Nat → World → Prop) : Prop :=
  Calls Tryz.prog 184 #[.int .i64 seq] w fun e w' => ∃ r_0 r_1 r_2 r_3 r_4 r_5 r_6_b r_6_l r_6_c, e = .returned (.agg #[.int .i64 r_0, .int .i64 r_1, .int .i64 r_2, .int .i64 r_3, .int .i64 r_4, .int .i64 r_5, .slice r_6_b r_6_l r_6_c]) ∧ R r_0 r_1 r_2 r_3 r_4 r_5 r_6_b r_6_l r_6_c w'
theorem conn_rst.Call.mono {seq} {w : World} {R R' : Int → Int → Int → Int → Int → Int → Option Addr → Nat → Nat → World → Prop} (h : conn_rst.Call seq w R) (hr : ∀ r_0 r_1 r_2 r_3 r_4 r_5 r_6_b r_6_l r_6_c w', R r_0 r_1 r_2 r_3 r_4 r_5 r_6_b r_6_l r_6_c w' → R' r_0 r_1 r_2 r_3 r_4 r_5 r_6_b r_6_l r_6_c w') : conn_rst.Call seq w R' :=
  Calls.mono h fun e w' he => by
    obtain ⟨r_0, r_1, r_2, r_3, r_4, r_5, r_6_b, r_6_l, r_6_c, h1, h2⟩ := he
    exact ⟨r_0, r_1, r_2, r_3, r_4, r_5, r_6_b, r_6_l, r_6_c, h1, hr r_0 r_1 r_2 r_3 r_4 r_5 r_6_b r_6_l r_6_c w' h2⟩
def conn_rst.RV (R : Int → Int → Int → Int → Int → Int → Option Addr → Nat → Nat → World → Prop) (v : Value) (w : World) : Prop := match v with
  | .agg ⟨[.int .i64 r_0, .int .i64 r_1, .int .i64 r_2, .int .i64 r_3, .int .i64 r_4, .int .i64 r_5, .slice r_6_b r_6_l r_6_c]⟩ => R r_0 r_1 r_2 r_3 r_4 r_5 r_6_b r_6_l r_6_c w
  | _ => False
theorem conn_rst.RV_elim {R : Int → Int → Int → Int → Int → Int → Option Addr → Nat → Nat → World → Prop} {v : Value} {w : World} (h : conn_rst.RV R v w) : ∃ r_0 r_1 r_2 r_3 r_4 r_5 r_6_b r_6_l r_6_c, Ending.returned v = .returned (.agg #[.int .i64 r_0, .int .i64 r_1, .int .i64 r_2, .int .i64 r_3, .int .i64 r_4, .int .i64 r_5, .slice r_6_b r_6_l r_6_c]) ∧ R r_0 r_1 r_2 r_3 r_4 r_5 r_6_b r_6_l r_6_c w := by
  unfold conn_rst.RV at h
  split at h
  · exact ⟨_, _, _, _, _, _, _, _, _, rfl, h⟩
  · exact h.elim
/-- (*e2e/conn.Conn).sent -/
def conn_Conn_sent.Call (c : Option Addr) (w : World) (R : Int → World → Prop) : Prop :=
  Calls Tryz.prog 185 #[.pointer c] w fun e w' => ∃ r, e = .returned (.int .i64 r) ∧ R r w'
theorem conn_Conn_sent.Call.mono {c} {w : World} {R R' : Int → World → Prop} (h : conn_Conn_sent.Call c w R) (hr : ∀ r w', R r w' → R' r w') : conn_Conn_sent.Call c w R' :=
  Calls.mono h fun e w' he => by
    obtain ⟨r, h1, h2⟩ := he
    exact ⟨r, h1, hr r w' h2⟩
def conn_Conn_sent.RV (R : Int → World → Prop) (v : Value) (w : World) : Prop := match v with
  | .int .i64 r => R r w
  | _ => False
theorem conn_Conn_sent.RV_elim {R : Int → World → Prop} {v : Value} {w : World} (h : conn_Conn_sent.RV R v w) : ∃ r, Ending.returned v = .returned (.int .i64 r) ∧ R r w := by
  unfold conn_Conn_sent.RV at h
  split at h
  · exact ⟨_, rfl, h⟩
  · exact h.elim
/-- (*e2e/frame.Sum).AddAll -/
def frame_Sum_AddAll.Call (u p_b : Option Addr) (p_l p_c : Nat) (w : World) (R : World → Prop) : Prop :=
  Calls Tryz.prog 186 #[.pointer u, .slice p_b p_l p_c] w fun e w' => e = .returned (.tuple #[]) ∧ R w'
theorem frame_Sum_AddAll.Call.mono {u p_b p_l p_c} {w : World} {R R' : World → Prop} (h : frame_Sum_AddAll.Call u p_b p_l p_c w R) (hr : ∀ w', R w' → R'  w') : frame_Sum_AddAll.Call u p_b p_l p_c w R' :=
  Calls.mono h fun e w' he => by
    obtain ⟨h1, h2⟩ := he
    exact ⟨h1, hr  w' h2⟩
def frame_Sum_AddAll.RV (R : World → Prop) (v : Value) (w : World) : Prop := match v with
  | .tuple ⟨[]⟩ => R w
  | _ => False
theorem frame_Sum_AddAll.RV_elim {R : World → Prop} {v : Value} {w : World} (h : frame_Sum_AddAll.RV R v w) : Ending.returned v = .returned (.tuple #[]) ∧ R w := by
  unfold frame_Sum_AddAll.RV at h
  split at h
  · exact ⟨rfl, h⟩
  · exact h.elim
/-- (*e2e/frame.Sum).A -/
def frame_Sum_A.Call (u : Option Addr) (w : World) (R : Int → World → Prop) : Prop :=
  Calls Tryz.prog 187 #[.pointer u] w fun e w' => ∃ r, e = .returned (.int .u8 r) ∧ R r w'
theorem frame_Sum_A.Call.mono {u} {w : World} {R R' : Int → World → Prop} (h : frame_Sum_A.Call u w R) (hr : ∀ r w', R r w' → R' r w') : frame_Sum_A.Call u w R' :=
  Calls.mono h fun e w' he => by
    obtain ⟨r, h1, h2⟩ := he
    exact ⟨r, h1, hr r w' h2⟩
def frame_Sum_A.RV (R : Int → World → Prop) (v : Value) (w : World) : Prop := match v with
  | .int .u8 r => R r w
  | _ => False
theorem frame_Sum_A.RV_elim {R : Int → World → Prop} {v : Value} {w : World} (h : frame_Sum_A.RV R v w) : ∃ r, Ending.returned v = .returned (.int .u8 r) ∧ R r w := by
  unfold frame_Sum_A.RV at h
  split at h
  · exact ⟨_, rfl, h⟩
  · exact h.elim
/-- (*e2e/frame.Sum).B -/
def frame_Sum_B.Call (u : Option Addr) (w : World) (R : Int → World → Prop) : Prop :=
  Calls Tryz.prog 188 #[.pointer u] w fun e w' => ∃ r, e = .returned (.int .u8 r) ∧ R r w'
theorem frame_Sum_B.Call.mono {u} {w : World} {R R' : Int → World → Prop} (h : frame_Sum_B.Call u w R) (hr : ∀ r w', R r w' → R' r w') : frame_Sum_B.Call u w R' :=
  Calls.mono h fun e w' he => by
    obtain ⟨r, h1, h2⟩ := he
    exact ⟨r, h1, hr r w' h2⟩
def frame_Sum_B.RV (R : Int → World → Prop) (v : Value) (w : World) : Prop := match v with
  | .int .u8 r => R r w
  | _ => False
theorem frame_Sum_B.RV_elim {R : Int → World → Prop} {v : Value} {w : World} (h : frame_Sum_B.RV R v w) : ∃ r, Ending.returned v = .returned (.int .u8 r) ∧ R r w := by
  unfold frame_Sum_B.RV at h
  split at h
  · exact ⟨_, rfl, h⟩
  · exact h.elim
/-- e2e/ip.below -/
def ip_below.Call (n : Int) (w : World) (R : Int → World → Prop) : Prop :=
  Calls Tryz.prog 189 #[.int .i64 n] w fun e w' => ∃ r, e = .returned (.int .u64 r) ∧ R r w'
theorem ip_below.Call.mono {n} {w : World} {R R' : Int → World → Prop} (h : ip_below.Call n w R) (hr : ∀ r w', R r w' → R' r w') : ip_below.Call n w R' :=
  Calls.mono h fun e w' he => by
    obtain ⟨r, h1, h2⟩ := he
    exact ⟨r, h1, hr r w' h2⟩
def ip_below.RV (R : Int → World → Prop) (v : Value) (w : World) : Prop := match v with
  | .int .u64 r => R r w
  | _ => False
theorem ip_below.RV_elim {R : Int → World → Prop} {v : Value} {w : World} (h : ip_below.RV R v w) : ∃ r, Ending.returned v = .returned (.int .u64 r) ∧ R r w := by
  unfold ip_below.RV at h
  split at h
  · exact ⟨_, rfl, h⟩
  · exact h.elim
/-- (*e2e/seg.sums).add -/
def seg_sums_add.Call (x : Option Addr) (b : Int) (w : World) (R : World → Prop) : Prop :=
  Calls Tryz.prog 190 #[.pointer x, .int .u8 b] w fun e w' => e = .returned (.tuple #[]) ∧ R w'
theorem seg_sums_add.Call.mono {x b} {w : World} {R R' : World → Prop} (h : seg_sums_add.Call x b w R) (hr : ∀ w', R w' → R'  w') : seg_sums_add.Call x b w R' :=
  Calls.mono h fun e w' he => by
    obtain ⟨h1, h2⟩ := he
    exact ⟨h1, hr  w' h2⟩
def seg_sums_add.RV (R : World → Prop) (v : Value) (w : World) : Prop := match v with
  | .tuple ⟨[]⟩ => R w
  | _ => False
theorem seg_sums_add.RV_elim {R : World → Prop} {v : Value} {w : World} (h : seg_sums_add.RV R v w) : Ending.returned v = .returned (.tuple #[]) ∧ R w := by
  unfold seg_sums_add.RV at h
  split at h
  · exact ⟨rfl, h⟩
  · exact h.elim
/-- (*e2e/seg.sums).all -/
def seg_sums_all.Call (x b_b : Option Addr) (b_l b_c : Nat) (w : World) (R : World → Prop) : Prop :=
  Calls Tryz.prog 191 #[.pointer x, .slice b_b b_l b_c] w fun e w' => e = .returned (.tuple #[]) ∧ R w'
theorem seg_sums_all.Call.mono {x b_b b_l b_c} {w : World} {R R' : World → Prop} (h : seg_sums_all.Call x b_b b_l b_c w R) (hr : ∀ w', R w' → R'  w') : seg_sums_all.Call x b_b b_l b_c w R' :=
  Calls.mono h fun e w' he => by
    obtain ⟨h1, h2⟩ := he
    exact ⟨h1, hr  w' h2⟩
def seg_sums_all.RV (R : World → Prop) (v : Value) (w : World) : Prop := match v with
  | .tuple ⟨[]⟩ => R w
  | _ => False
theorem seg_sums_all.RV_elim {R : World → Prop} {v : Value} {w : World} (h : seg_sums_all.RV R v w) : Ending.returned v = .returned (.tuple #[]) ∧ R w := by
  unfold seg_sums_all.RV at h
  split at h
  · exact ⟨rfl, h⟩
  · exact h.elim
/-- (*e2e/conn.Conn).inQuiet -/
def conn_Conn_inQuiet.Call (c : Option Addr) (s_0 s_1 s_2 s_3 s_4 s_5 : Int) (s_6_b : Option Addr) (s_6_l s_6_c : Nat) (w : World) (R : Option Addr → Nat → Nat → World → Prop) : Prop :=
  Calls Tryz.prog 192 #[.pointer c, .agg #[.int .i64 s_0, .int .i64 s_1, .int .i64 s_2, .int .i64 s_3, .int .i64 s_4, .int .i64 s_5, .slice s_6_b s_6_l s_6_c]] w fun e w' => ∃ r_b r_l r_c, e = .returned (.slice r_b r_l r_c) ∧ R r_b r_l r_c w'
theorem conn_Conn_inQuiet.Call.mono {c s_0 s_1 s_2 s_3 s_4 s_5 s_6_b s_6_l s_6_c} {w : World} {R R' : Option Addr → Nat → Nat → World → Prop} (h : conn_Conn_inQuiet.Call c s_0 s_1 s_2 s_3 s_4 s_5 s_6_b s_6_l s_6_c w R) (hr : ∀ r_b r_l r_c w', R r_b r_l r_c w' → R' r_b r_l r_c w') : conn_Conn_inQuiet.Call c s_0 s_1 s_2 s_3 s_4 s_5 s_6_b s_6_l s_6_c w R' :=
  Calls.mono h fun e w' he => by
    obtain ⟨r_b, r_l, r_c, h1, h2⟩ := he
    exact ⟨r_b, r_l, r_c, h1, hr r_b r_l r_c w' h2⟩
def conn_Conn_inQuiet.RV (R : Option Addr → Nat → Nat → World → Prop) (v : Value) (w : World) : Prop := match v with
  | .slice r_b r_l r_c => R r_b r_l r_c w
  | _ => False
theorem conn_Conn_inQuiet.RV_elim {R : Option Addr → Nat → Nat → World → Prop} {v : Value} {w : World} (h : conn_Conn_inQuiet.RV R v w) : ∃ r_b r_l r_c, Ending.returned v = .returned (.slice r_b r_l r_c) ∧ R r_b r_l r_c w := by
  unfold conn_Conn_inQuiet.RV at h
  split at h
  · exact ⟨_, _, _, rfl, h⟩
  · exact h.elim
/-- (*e2e/conn.Conn).inSynSent -/
def conn_Conn_inSynSent.Call (c : Option Addr) (s_0 s_1 s_2 s_3 s_4 s_5 : Int) (s_6_b : Option Addr) (s_6_l s_6_c : Nat) (w : World) (R : Option Addr → Nat → Nat → World → Prop) : Prop :=
  Calls Tryz.prog 193 #[.pointer c, .agg #[.int .i64 s_0, .int .i64 s_1, .int .i64 s_2, .int .i64 s_3, .int .i64 s_4, .int .i64 s_5, .slice s_6_b s_6_l s_6_c]] w fun e w' => ∃ r_b r_l r_c, e = .returned (.slice r_b r_l r_c) ∧ R r_b r_l r_c w'
theorem conn_Conn_inSynSent.Call.mono {c s_0 s_1 s_2 s_3 s_4 s_5 s_6_b s_6_l s_6_c} {w : World} {R R' : Option Addr → Nat → Nat → World → Prop} (h : conn_Conn_inSynSent.Call c s_0 s_1 s_2 s_3 s_4 s_5 s_6_b s_6_l s_6_c w R) (hr : ∀ r_b r_l r_c w', R r_b r_l r_c w' → R' r_b r_l r_c w') : conn_Conn_inSynSent.Call c s_0 s_1 s_2 s_3 s_4 s_5 s_6_b s_6_l s_6_c w R' :=
  Calls.mono h fun e w' he => by
    obtain ⟨r_b, r_l, r_c, h1, h2⟩ := he
    exact ⟨r_b, r_l, r_c, h1, hr r_b r_l r_c w' h2⟩
def conn_Conn_inSynSent.RV (R : Option Addr → Nat → Nat → World → Prop) (v : Value) (w : World) : Prop := match v with
  | .slice r_b r_l r_c => R r_b r_l r_c w
  | _ => False
theorem conn_Conn_inSynSent.RV_elim {R : Option Addr → Nat → Nat → World → Prop} {v : Value} {w : World} (h : conn_Conn_inSynSent.RV R v w) : ∃ r_b r_l r_c, Ending.returned v = .returned (.slice r_b r_l r_c) ∧ R r_b r_l r_c w := by
  unfold conn_Conn_inSynSent.RV at h
  split at h
  · exact ⟨_, _, _, rfl, h⟩
  · exact h.elim
/-- (*e2e/conn.Conn).inSync -/
def conn_Conn_inSync.Call (c : Option Addr) (s_0 s_1 s_2 s_3 s_4 s_5 : Int) (s_6_b : Option Addr) (s_6_l s_6_c : Nat) (w : World) (R : Option Addr → Nat → Nat → World → Prop) : Prop :=
  Calls Tryz.prog 194 #[.pointer c, .agg #[.int .i64 s_0, .int .i64 s_1, .int .i64 s_2, .int .i64 s_3, .int .i64 s_4, .int .i64 s_5, .slice s_6_b s_6_l s_6_c]] w fun e w' => ∃ r_b r_l r_c, e = .returned (.slice r_b r_l r_c) ∧ R r_b r_l r_c w'
theorem conn_Conn_inSync.Call.mono {c s_0 s_1 s_2 s_3 s_4 s_5 s_6_b s_6_l s_6_c} {w : World} {R R' : Option Addr → Nat → Nat → World → Prop} (h : conn_Conn_inSync.Call c s_0 s_1 s_2 s_3 s_4 s_5 s_6_b s_6_l s_6_c w R) (hr : ∀ r_b r_l r_c w', R r_b r_l r_c w' → R' r_b r_l r_c w') : conn_Conn_inSync.Call c s_0 s_1 s_2 s_3 s_4 s_5 s_6_b s_6_l s_6_c w R' :=
  Calls.mono h fun e w' he => by
    obtain ⟨r_b, r_l, r_c, h1, h2⟩ := he
    exact ⟨r_b, r_l, r_c, h1, hr r_b r_l r_c w' h2⟩
def conn_Conn_inSync.RV (R : Option Addr → Nat → Nat → World → Prop) (v : Value) (w : World) : Prop := match v with
  | .slice r_b r_l r_c => R r_b r_l r_c w
  | _ => False
theorem conn_Conn_inSync.RV_elim {R : Option Addr → Nat → Nat → World → Prop} {v : Value} {w : World} (h : conn_Conn_inSync.RV R v w) : ∃ r_b r_l r_c, Ending.returned v = .returned (.slice r_b r_l r_c) ∧ R r_b r_l r_c w := by
  unfold conn_Conn_inSync.RV at h
  split at h
  · exact ⟨_, _, _, rfl, h⟩
  · exact h.elim
/-- (*e2e/sock.Table).enqueue -/
def sock_Table_enqueue.Call (t : Option Addr) (l sd : Int) (w : World) (R : World → Prop) : Prop :=
  Calls Tryz.prog 195 #[.pointer t, .int .i64 l, .int .i64 sd] w fun e w' => e = .returned (.tuple #[]) ∧ R w'
theorem sock_Table_enqueue.Call.mono {t l sd} {w : World} {R R' : World → Prop} (h : sock_Table_enqueue.Call t l sd w R) (hr : ∀ w', R w' → R'  w') : sock_Table_enqueue.Call t l sd w R' :=
  Calls.mono h fun e w' he => by
    obtain ⟨h1, h2⟩ := he
    exact ⟨h1, hr  w' h2⟩
def sock_Table_enqueue.RV (R : World → Prop) (v : Value) (w : World) : Prop := match v with
  | .tuple ⟨[]⟩ => R w
  | _ => False
theorem sock_Table_enqueue.RV_elim {R : World → Prop} {v : Value} {w : World} (h : sock_Table_enqueue.RV R v w) : Ending.returned v = .returned (.tuple #[]) ∧ R w := by
  unfold sock_Table_enqueue.RV at h
  split at h
  · exact ⟨rfl, h⟩
  · exact h.elim
/-- (*e2e/seg.RecvBuf).Reset -/
def seg_RecvBuf_Reset.Call (b : Option Addr) (seq : Int) (w : World) (R : World → Prop) : Prop :=
  Calls Tryz.prog 196 #[.pointer b, .int .i64 seq] w fun e w' => e = .returned (.tuple #[]) ∧ R w'
theorem seg_RecvBuf_Reset.Call.mono {b seq} {w : World} {R R' : World → Prop} (h : seg_RecvBuf_Reset.Call b seq w R) (hr : ∀ w', R w' → R'  w') : seg_RecvBuf_Reset.Call b seq w R' :=
  Calls.mono h fun e w' he => by
    obtain ⟨h1, h2⟩ := he
    exact ⟨h1, hr  w' h2⟩
def seg_RecvBuf_Reset.RV (R : World → Prop) (v : Value) (w : World) : Prop := match v with
  | .tuple ⟨[]⟩ => R w
  | _ => False
theorem seg_RecvBuf_Reset.RV_elim {R : World → Prop} {v : Value} {w : World} (h : seg_RecvBuf_Reset.RV R v w) : Ending.returned v = .returned (.tuple #[]) ∧ R w := by
  unfold seg_RecvBuf_Reset.RV at h
  split at h
  · exact ⟨rfl, h⟩
  · exact h.elim
/-- e2e/conn.window -/
def conn_window.Call (w0 : Int) (w : World) (R : Int → World → Prop) : Prop :=
  Calls Tryz.prog 197 #[.int .i64 w0] w fun e w' => ∃ r, e = .returned (.int .i64 r) ∧ R r w'
theorem conn_window.Call.mono {w0} {w : World} {R R' : Int → World → Prop} (h : conn_window.Call w0 w R) (hr : ∀ r w', R r w' → R' r w') : conn_window.Call w0 w R' :=
  Calls.mono h fun e w' he => by
    obtain ⟨r, h1, h2⟩ := he
    exact ⟨r, h1, hr r w' h2⟩
def conn_window.RV (R : Int → World → Prop) (v : Value) (w : World) : Prop := match v with
  | .int .i64 r => R r w
  | _ => False
theorem conn_window.RV_elim {R : Int → World → Prop} {v : Value} {w : World} (h : conn_window.RV R v w) : ∃ r, Ending.returned v = .returned (.int .i64 r) ∧ R r w := by
  unfold conn_window.RV at h
  split at h
  · exact ⟨_, rfl, h⟩
  · exact h.elim
/-- e2e/ip.packet -/
def ip_packet.Call (proto src dst id0 offmore : Int) (payload_b : Option Addr) (payload_l payload_c : Nat) (w : World) (R : Option Addr → Nat → Nat → World → Prop) : Prop :=
  Calls Tryz.prog 198 #[.int .i64 proto, .int .i64 src, .int .i64 dst, .int .i64 id0, .int .i64 offmore, .slice payload_b payload_l payload_c] w fun e w' => ∃ r_b r_l r_c, e = .returned (.slice r_b r_l r_c) ∧ R r_b r_l r_c w'
theorem ip_packet.Call.mono {proto src dst id0 offmore payload_b payload_l payload_c} {w : World} {R R' : Option Addr → Nat → Nat → World → Prop} (h : ip_packet.Call proto src dst id0 offmore payload_b payload_l payload_c w R) (hr : ∀ r_b r_l r_c w', R r_b r_l r_c w' → R' r_b r_l r_c w') : ip_packet.Call proto src dst id0 offmore payload_b payload_l payload_c w R' :=
  Calls.mono h fun e w' he => by
    obtain ⟨r_b, r_l, r_c, h1, h2⟩ := he
    exact ⟨r_b, r_l, r_c, h1, hr r_b r_l r_c w' h2⟩
def ip_packet.RV (R : Option Addr → Nat → Nat → World → Prop) (v : Value) (w : World) : Prop := match v with
  | .slice r_b r_l r_c => R r_b r_l r_c w
  | _ => False
theorem ip_packet.RV_elim {R : Option Addr → Nat → Nat → World → Prop} {v : Value} {w : World} (h : ip_packet.RV R v w) : ∃ r_b r_l r_c, Ending.returned v = .returned (.slice r_b r_l r_c) ∧ R r_b r_l r_c w := by
  unfold ip_packet.RV at h
  split at h
  · exact ⟨_, _, _, rfl, h⟩
  · exact h.elim
/-- (*e2e/frame.Sum).Add -/
def frame_Sum_Add.Call (u : Option Addr) (b : Int) (w : World) (R : World → Prop) : Prop :=
  Calls Tryz.prog 199 #[.pointer u, .int .u8 b] w fun e w' => e = .returned (.tuple #[]) ∧ R w'
theorem frame_Sum_Add.Call.mono {u b} {w : World} {R R' : World → Prop} (h : frame_Sum_Add.Call u b w R) (hr : ∀ w', R w' → R'  w') : frame_Sum_Add.Call u b w R' :=
  Calls.mono h fun e w' he => by
    obtain ⟨h1, h2⟩ := he
    exact ⟨h1, hr  w' h2⟩
def frame_Sum_Add.RV (R : World → Prop) (v : Value) (w : World) : Prop := match v with
  | .tuple ⟨[]⟩ => R w
  | _ => False
theorem frame_Sum_Add.RV_elim {R : World → Prop} {v : Value} {w : World} (h : frame_Sum_Add.RV R v w) : Ending.returned v = .returned (.tuple #[]) ∧ R w := by
  unfold frame_Sum_Add.RV at h
  split at h
  · exact ⟨rfl, h⟩
  · exact h.elim
/-- (*e2e/seg.SendBuf).Reset -/
def seg_SendBuf_Reset.Call (b : Option Addr) (seq : Int) (w : World) (R : World → Prop) : Prop :=
  Calls Tryz.prog 200 #[.pointer b, .int .i64 seq] w fun e w' => e = .returned (.tuple #[]) ∧ R w'
theorem seg_SendBuf_Reset.Call.mono {b seq} {w : World} {R R' : World → Prop} (h : seg_SendBuf_Reset.Call b seq w R) (hr : ∀ w', R w' → R'  w') : seg_SendBuf_Reset.Call b seq w R' :=
  Calls.mono h fun e w' he => by
    obtain ⟨h1, h2⟩ := he
    exact ⟨h1, hr  w' h2⟩
def seg_SendBuf_Reset.RV (R : World → Prop) (v : Value) (w : World) : Prop := match v with
  | .tuple ⟨[]⟩ => R w
  | _ => False
theorem seg_SendBuf_Reset.RV_elim {R : World → Prop} {v : Value} {w : World} (h : seg_SendBuf_Reset.RV R v w) : Ending.returned v = .returned (.tuple #[]) ∧ R w := by
  unfold seg_SendBuf_Reset.RV at h
  split at h
  · exact ⟨rfl, h⟩
  · exact h.elim
/-- (*e2e/conn.Conn).mk -/
def conn_Conn_mk.Call (c : Option Addr) (flags seq : Int) (data_b : Option Addr) (data_l data_c : Nat) (w : World) (R : Int → Int → Int → Int → Int → Int → Option Addr → Nat → Nat → World → Prop) : Prop :=
  Calls Tryz.prog 201 #[.pointer c, .int .i64 flags, .int .i64 seq, .slice data_b data_l data_c] w fun e w' => ∃ r_0 r_1 r_2 r_3 r_4 r_5 r_6_b r_6_l r_6_c, e = .returned (.agg #[.int .i64 r_0, .int .i64 r_1, .int .i64 r_2, .int .i64 r_3, .int .i64 r_4, .int .i64 r_5, .slice r_6_b r_6_l r_6_c]) ∧ R r_0 r_1 r_2 r_3 r_4 r_5 r_6_b r_6_l r_6_c w'
theorem conn_Conn_mk.Call.mono {c flags seq data_b data_l data_c} {w : World} {R R' : Int → Int → Int → Int → Int → Int → Option Addr → Nat → Nat → World → Prop} (h : conn_Conn_mk.Call c flags seq data_b data_l data_c w R) (hr : ∀ r_0 r_1 r_2 r_3 r_4 r_5 r_6_b r_6_l r_6_c w', R r_0 r_1 r_2 r_3 r_4 r_5 r_6_b r_6_l r_6_c w' → R' r_0 r_1 r_2 r_3 r_4 r_5 r_6_b r_6_l r_6_c w') : conn_Conn_mk.Call c flags seq data_b data_l data_c w R' :=
  Calls.mono h fun e w' he => by
    obtain ⟨r_0, r_1, r_2, r_3, r_4, r_5, r_6_b, r_6_l, r_6_c, h1, h2⟩ := he
    exact ⟨r_0, r_1, r_2, r_3, r_4, r_5, r_6_b, r_6_l, r_6_c, h1, hr r_0 r_1 r_2 r_3 r_4 r_5 r_6_b r_6_l r_6_c w' h2⟩
def conn_Conn_mk.RV (R : Int → Int → Int → Int → Int → Int → Option Addr → Nat → Nat → World → Prop) (v : Value) (w : World) : Prop := match v with
  | .agg ⟨[.int .i64 r_0, .int .i64 r_1, .int .i64 r_2, .int .i64 r_3, .int .i64 r_4, .int .i64 r_5, .slice r_6_b r_6_l r_6_c]⟩ => R r_0 r_1 r_2 r_3 r_4 r_5 r_6_b r_6_l r_6_c w
  | _ => False
theorem conn_Conn_mk.RV_elim {R : Int → Int → Int → Int → Int → Int → Option Addr → Nat → Nat → World → Prop} {v : Value} {w : World} (h : conn_Conn_mk.RV R v w) : ∃ r_0 r_1 r_2 r_3 r_4 r_5 r_6_b r_6_l r_6_c, Ending.returned v = .returned (.agg #[.int .i64 r_0, .int .i64 r_1, .int .i64 r_2, .int .i64 r_3, .int .i64 r_4, .int .i64 r_5, .slice r_6_b r_6_l r_6_c]) ∧ R r_0 r_1 r_2 r_3 r_4 r_5 r_6_b r_6_l r_6_c w := by
  unfold conn_Conn_mk.RV at h
  split at h
  · exact ⟨_, _, _, _, _, _, _, _, _, rfl, h⟩
  · exact h.elim
/-- (*e2e/seg.SendBuf).Again -/
def seg_SendBuf_Again.Call (b : Option Addr) (max : Int) (w : World) (R : Int → Option Addr → Nat → Nat → World → Prop) : Prop :=
  Calls Tryz.prog 202 #[.pointer b, .int .i64 max] w fun e w' => ∃ r0 r1_b r1_l r1_c, e = .returned (.tuple #[.int .i64 r0, .slice r1_b r1_l r1_c]) ∧ R r0 r1_b r1_l r1_c w'
theorem seg_SendBuf_Again.Call.mono {b max} {w : World} {R R' : Int → Option Addr → Nat → Nat → World → Prop} (h : seg_SendBuf_Again.Call b max w R) (hr : ∀ r0 r1_b r1_l r1_c w', R r0 r1_b r1_l r1_c w' → R' r0 r1_b r1_l r1_c w') : seg_SendBuf_Again.Call b max w R' :=
  Calls.mono h fun e w' he => by
    obtain ⟨r0, r1_b, r1_l, r1_c, h1, h2⟩ := he
    exact ⟨r0, r1_b, r1_l, r1_c, h1, hr r0 r1_b r1_l r1_c w' h2⟩
def seg_SendBuf_Again.RV (R : Int → Option Addr → Nat → Nat → World → Prop) (v : Value) (w : World) : Prop := match v with
  | .tuple ⟨[.int .i64 r0, .slice r1_b r1_l r1_c]⟩ => R r0 r1_b r1_l r1_c w
  | _ => False
theorem seg_SendBuf_Again.RV_elim {R : Int → Option Addr → Nat → Nat → World → Prop} {v : Value} {w : World} (h : seg_SendBuf_Again.RV R v w) : ∃ r0 r1_b r1_l r1_c, Ending.returned v = .returned (.tuple #[.int .i64 r0, .slice r1_b r1_l r1_c]) ∧ R r0 r1_b r1_l r1_c w := by
  unfold seg_SendBuf_Again.RV at h
  split at h
  · exact ⟨_, _, _, _, rfl, h⟩
  · exact h.elim
/-- (*e2e/seg.SendBuf).Next -/
def seg_SendBuf_Next.Call (b : Option Addr) (max : Int) (w : World) (R : Int → Option Addr → Nat → Nat → World → Prop) : Prop :=
  Calls Tryz.prog 203 #[.pointer b, .int .i64 max] w fun e w' => ∃ r0 r1_b r1_l r1_c, e = .returned (.tuple #[.int .i64 r0, .slice r1_b r1_l r1_c]) ∧ R r0 r1_b r1_l r1_c w'
theorem seg_SendBuf_Next.Call.mono {b max} {w : World} {R R' : Int → Option Addr → Nat → Nat → World → Prop} (h : seg_SendBuf_Next.Call b max w R) (hr : ∀ r0 r1_b r1_l r1_c w', R r0 r1_b r1_l r1_c w' → R' r0 r1_b r1_l r1_c w') : seg_SendBuf_Next.Call b max w R' :=
  Calls.mono h fun e w' he => by
    obtain ⟨r0, r1_b, r1_l, r1_c, h1, h2⟩ := he
    exact ⟨r0, r1_b, r1_l, r1_c, h1, hr r0 r1_b r1_l r1_c w' h2⟩
def seg_SendBuf_Next.RV (R : Int → Option Addr → Nat → Nat → World → Prop) (v : Value) (w : World) : Prop := match v with
  | .tuple ⟨[.int .i64 r0, .slice r1_b r1_l r1_c]⟩ => R r0 r1_b r1_l r1_c w
  | _ => False
theorem seg_SendBuf_Next.RV_elim {R : Int → Option Addr → Nat → Nat → World → Prop} {v : Value} {w : World} (h : seg_SendBuf_Next.RV R v w) : ∃ r0 r1_b r1_l r1_c, Ending.returned v = .returned (.tuple #[.int .i64 r0, .slice r1_b r1_l r1_c]) ∧ R r0 r1_b r1_l r1_c w := by
  unfold seg_SendBuf_Next.RV at h
  split at h
  · exact ⟨_, _, _, _, rfl, h⟩
  · exact h.elim
/-- (*e2e/seg.SendBuf).Nxt -/
def seg_SendBuf_Nxt.Call (b : Option Addr) (w : World) (R : Int → World → Prop) : Prop :=
  Calls Tryz.prog 204 #[.pointer b] w fun e w' => ∃ r, e = .returned (.int .i64 r) ∧ R r w'
theorem seg_SendBuf_Nxt.Call.mono {b} {w : World} {R R' : Int → World → Prop} (h : seg_SendBuf_Nxt.Call b w R) (hr : ∀ r w', R r w' → R' r w') : seg_SendBuf_Nxt.Call b w R' :=
  Calls.mono h fun e w' he => by
    obtain ⟨r, h1, h2⟩ := he
    exact ⟨r, h1, hr r w' h2⟩
def seg_SendBuf_Nxt.RV (R : Int → World → Prop) (v : Value) (w : World) : Prop := match v with
  | .int .i64 r => R r w
  | _ => False
theorem seg_SendBuf_Nxt.RV_elim {R : Int → World → Prop} {v : Value} {w : World} (h : seg_SendBuf_Nxt.RV R v w) : ∃ r, Ending.returned v = .returned (.int .i64 r) ∧ R r w := by
  unfold seg_SendBuf_Nxt.RV at h
  split at h
  · exact ⟨_, rfl, h⟩
  · exact h.elim
/-- (*e2e/sock.Table).leave -/
def sock_Table_leave.Call (t : Option Addr) (l sd : Int) (w : World) (R : World → Prop) : Prop :=
  Calls Tryz.prog 205 #[.pointer t, .int .i64 l, .int .i64 sd] w fun e w' => e = .returned (.tuple #[]) ∧ R w'
theorem sock_Table_leave.Call.mono {t l sd} {w : World} {R R' : World → Prop} (h : sock_Table_leave.Call t l sd w R) (hr : ∀ w', R w' → R'  w') : sock_Table_leave.Call t l sd w R' :=
  Calls.mono h fun e w' he => by
    obtain ⟨h1, h2⟩ := he
    exact ⟨h1, hr  w' h2⟩
def sock_Table_leave.RV (R : World → Prop) (v : Value) (w : World) : Prop := match v with
  | .tuple ⟨[]⟩ => R w
  | _ => False
theorem sock_Table_leave.RV_elim {R : World → Prop} {v : Value} {w : World} (h : sock_Table_leave.RV R v w) : Ending.returned v = .returned (.tuple #[]) ∧ R w := by
  unfold sock_Table_leave.RV at h
  split at h
  · exact ⟨rfl, h⟩
  · exact h.elim
/-- (*e2e/sock.Table).link -/
def sock_Table_link.Call (t : Option Addr) (i : Int) (w : World) (R : World → Prop) : Prop :=
  Calls Tryz.prog 206 #[.pointer t, .int .i64 i] w fun e w' => e = .returned (.tuple #[]) ∧ R w'
theorem sock_Table_link.Call.mono {t i} {w : World} {R R' : World → Prop} (h : sock_Table_link.Call t i w R) (hr : ∀ w', R w' → R'  w') : sock_Table_link.Call t i w R' :=
  Calls.mono h fun e w' he => by
    obtain ⟨h1, h2⟩ := he
    exact ⟨h1, hr  w' h2⟩
def sock_Table_link.RV (R : World → Prop) (v : Value) (w : World) : Prop := match v with
  | .tuple ⟨[]⟩ => R w
  | _ => False
theorem sock_Table_link.RV_elim {R : World → Prop} {v : Value} {w : World} (h : sock_Table_link.RV R v w) : Ending.returned v = .returned (.tuple #[]) ∧ R w := by
  unfold sock_Table_link.RV at h
  split at h
  · exact ⟨rfl, h⟩
  · exact h.elim
/-- e2e/sock.wrap -/
def sock_wrap.Call (k : Int) (w : World) (R : Int → World → Prop) : Prop :=
  Calls Tryz.prog 207 #[.int .i64 k] w fun e w' => ∃ r, e = .returned (.int .i64 r) ∧ R r w'
theorem sock_wrap.Call.mono {k} {w : World} {R R' : Int → World → Prop} (h : sock_wrap.Call k w R) (hr : ∀ r w', R r w' → R' r w') : sock_wrap.Call k w R' :=
  Calls.mono h fun e w' he => by
    obtain ⟨r, h1, h2⟩ := he
    exact ⟨r, h1, hr r w' h2⟩
def sock_wrap.RV (R : Int → World → Prop) (v : Value) (w : World) : Prop := match v with
  | .int .i64 r => R r w
  | _ => False
theorem sock_wrap.RV_elim {R : Int → World → Prop} {v : Value} {w : World} (h : sock_wrap.RV R v w) : ∃ r, Ending.returned v = .returned (.int .i64 r) ∧ R r w := by
  unfold sock_wrap.RV at h
  split at h
  · exact ⟨_, rfl, h⟩
  · exact h.elim
/-- e2e/seg.least -/
def seg_least.Call (max have0 : Int) (w : World) (R : Int → World → Prop) : Prop :=
  Calls Tryz.prog 208 #[.int .i64 max, .int .i64 have0] w fun e w' => ∃ r, e = .returned (.int .i64 r) ∧ R r w'
theorem seg_least.Call.mono {max have0} {w : World} {R R' : Int → World → Prop} (h : seg_least.Call max have0 w R) (hr : ∀ r w', R r w' → R' r w') : seg_least.Call max have0 w R' :=
  Calls.mono h fun e w' he => by
    obtain ⟨r, h1, h2⟩ := he
    exact ⟨r, h1, hr r w' h2⟩
def seg_least.RV (R : Int → World → Prop) (v : Value) (w : World) : Prop := match v with
  | .int .i64 r => R r w
  | _ => False
theorem seg_least.RV_elim {R : Int → World → Prop} {v : Value} {w : World} (h : seg_least.RV R v w) : ∃ r, Ending.returned v = .returned (.int .i64 r) ∧ R r w := by
  unfold seg_least.RV at h
  split at h
  · exact ⟨_, rfl, h⟩
  · exact h.elim
/-- (*e2e/seg.RecvBuf).first -/
def seg_RecvBuf_first.Call (b : Option Addr) (n : Int) (w : World) (R : Option Addr → Nat → Nat → World → Prop) : Prop :=
  Calls Tryz.prog 209 #[.pointer b, .int .i64 n] w fun e w' => ∃ r_b r_l r_c, e = .returned (.slice r_b r_l r_c) ∧ R r_b r_l r_c w'
theorem seg_RecvBuf_first.Call.mono {b n} {w : World} {R R' : Option Addr → Nat → Nat → World → Prop} (h : seg_RecvBuf_first.Call b n w R) (hr : ∀ r_b r_l r_c w', R r_b r_l r_c w' → R' r_b r_l r_c w') : seg_RecvBuf_first.Call b n w R' :=
  Calls.mono h fun e w' he => by
    obtain ⟨r_b, r_l, r_c, h1, h2⟩ := he
    exact ⟨r_b, r_l, r_c, h1, hr r_b r_l r_c w' h2⟩
def seg_RecvBuf_first.RV (R : Option Addr → Nat → Nat → World → Prop) (v : Value) (w : World) : Prop := match v with
  | .slice r_b r_l r_c => R r_b r_l r_c w
  | _ => False
theorem seg_RecvBuf_first.RV_elim {R : Option Addr → Nat → Nat → World → Prop} {v : Value} {w : World} (h : seg_RecvBuf_first.RV R v w) : ∃ r_b r_l r_c, Ending.returned v = .returned (.slice r_b r_l r_c) ∧ R r_b r_l r_c w := by
  unfold seg_RecvBuf_first.RV at h
  split at h
  · exact ⟨_, _, _, rfl, h⟩
  · exact h.elim
/-- (*e2e/conn.Conn).opened -/
def conn_Conn_opened.Call (c : Option Addr) (w : World) (R : World → Prop) : Prop :=
  Calls Tryz.prog 210 #[.pointer c] w fun e w' => e = .returned (.tuple #[]) ∧ R w'
theorem conn_Conn_opened.Call.mono {c} {w : World} {R R' : World → Prop} (h : conn_Conn_opened.Call c w R) (hr : ∀ w', R w' → R'  w') : conn_Conn_opened.Call c w R' :=
  Calls.mono h fun e w' he => by
    obtain ⟨h1, h2⟩ := he
    exact ⟨h1, hr  w' h2⟩
def conn_Conn_opened.RV (R : World → Prop) (v : Value) (w : World) : Prop := match v with
  | .tuple ⟨[]⟩ => R w
  | _ => False
theorem conn_Conn_opened.RV_elim {R : World → Prop} {v : Value} {w : World} (h : conn_Conn_opened.RV R v w) : Ending.returned v = .returned (.tuple #[]) ∧ R w := by
  unfold conn_Conn_opened.RV at h
  split at h
  · exact ⟨rfl, h⟩
  · exact h.elim
/-- e2e/api.SeqDiff -/
def api_SeqDiff.Call (a b : Int) (w : World) (R : Int → World → Prop) : Prop :=
  Calls Tryz.prog 211 #[.int .i64 a, .int .i64 b] w fun e w' => ∃ r, e = .returned (.int .i64 r) ∧ R r w'
theorem api_SeqDiff.Call.mono {a b} {w : World} {R R' : Int → World → Prop} (h : api_SeqDiff.Call a b w R) (hr : ∀ r w', R r w' → R' r w') : api_SeqDiff.Call a b w R' :=
  Calls.mono h fun e w' he => by
    obtain ⟨r, h1, h2⟩ := he
    exact ⟨r, h1, hr r w' h2⟩
def api_SeqDiff.RV (R : Int → World → Prop) (v : Value) (w : World) : Prop := match v with
  | .int .i64 r => R r w
  | _ => False
theorem api_SeqDiff.RV_elim {R : Int → World → Prop} {v : Value} {w : World} (h : api_SeqDiff.RV R v w) : ∃ r, Ending.returned v = .returned (.int .i64 r) ∧ R r w := by
  unfold api_SeqDiff.RV at h
  split at h
  · exact ⟨_, rfl, h⟩
  · exact h.elim
/-- (*e2e/conn.Conn).acked -/
def conn_Conn_acked.Call (c : Option Addr) (s_0 s_1 s_2 s_3 s_4 s_5 : Int) (s_6_b : Option Addr) (s_6_l s_6_c : Nat) (w : World) (R : Bool → World → Prop) : Prop :=
  Calls Tryz.prog 212 #[.pointer c, .agg #[.int .i64 s_0, .int .i64 s_1, .int .i64 s_2, .int .i64 s_3, .int .i64 s_4, .int .i64 s_5, .slice s_6_b s_6_l s_6_c]] w fun e w' => ∃ r, e = .returned (.bool r) ∧ R r w'
theorem conn_Conn_acked.Call.mono {c s_0 s_1 s_2 s_3 s_4 s_5 s_6_b s_6_l s_6_c} {w : World} {R R' : Bool → World → Prop} (h : conn_Conn_acked.Call c s_0 s_1 s_2 s_3 s_4 s_5 s_6_b s_6_l s_6_c w R) (hr : ∀ r w', R r w' → R' r w') : conn_Conn_acked.Call c s_0 s_1 s_2 s_3 s_4 s_5 s_6_b s_6_l s_6_c w R' :=
  Calls.mono h fun e w' he => by
    obtain ⟨r, h1, h2⟩ := he
    exact ⟨r, h1, hr r w' h2⟩
def conn_Conn_acked.RV (R : Bool → World → Prop) (v : Value) (w : World) : Prop := match v with
  | .bool r => R r w
  | _ => False
theorem conn_Conn_acked.RV_elim {R : Bool → World → Prop} {v : Value} {w : World} (h : conn_Conn_acked.RV R v w) : ∃ r, Ending.returned v = .returned (.bool r) ∧ R r w := by
  unfold conn_Conn_acked.RV at h
  split at h
  · exact ⟨_, rfl, h⟩
  · exact h.elim
/-- (*e2e/conn.Conn).take -/
def conn_Conn_take.Call (c : Option Addr) (s_0 s_1 s_2 s_3 s_4 s_5 : Int) (s_6_b : Option Addr) (s_6_l s_6_c : Nat) (w : World) (R : World → Prop) : Prop :=
  Calls Tryz.prog 213 #[.pointer c, .agg #[.int .i64 s_0, .int .i64 s_1, .int .i64 s_2, .int .i64 s_3, .int .i64 s_4, .int .i64 s_5, .slice s_6_b s_6_l s_6_c]] w fun e w' => e = .returned (.tuple #[]) ∧ R w'
theorem conn_Conn_take.Call.mono {c s_0 s_1 s_2 s_3 s_4 s_5 s_6_b s_6_l s_6_c} {w : World} {R R' : World → Prop} (h : conn_Conn_take.Call c s_0 s_1 s_2 s_3 s_4 s_5 s_6_b s_6_l s_6_c w R) (hr : ∀ w', R w' → R'  w') : conn_Conn_take.Call c s_0 s_1 s_2 s_3 s_4 s_5 s_6_b s_6_l s_6_c w R' :=
  Calls.mono h fun e w' he => by
    obtain ⟨h1, h2⟩ := he
    exact ⟨h1, hr  w' h2⟩
def conn_Conn_take.RV (R : World → Prop) (v : Value) (w : World) : Prop := match v with
  | .tuple ⟨[]⟩ => R w
  | _ => False
theorem conn_Conn_take.RV_elim {R : World → Prop} {v : Value} {w : World} (h : conn_Conn_take.RV R v w) : Ending.returned v = .returned (.tuple #[]) ∧ R w := by
  unfold conn_Conn_take.RV at h
  split at h
  · exact ⟨rfl, h⟩
  · exact h.elim
/-- (*e2e/seg.RecvBuf).Window -/
def seg_RecvBuf_Window.Call (b : Option Addr) (w : World) (R : Int → World → Prop) : Prop :=
  Calls Tryz.prog 214 #[.pointer b] w fun e w' => ∃ r, e = .returned (.int .i64 r) ∧ R r w'
theorem seg_RecvBuf_Window.Call.mono {b} {w : World} {R R' : Int → World → Prop} (h : seg_RecvBuf_Window.Call b w R) (hr : ∀ r w', R r w' → R' r w') : seg_RecvBuf_Window.Call b w R' :=
  Calls.mono h fun e w' he => by
    obtain ⟨r, h1, h2⟩ := he
    exact ⟨r, h1, hr r w' h2⟩
def seg_RecvBuf_Window.RV (R : Int → World → Prop) (v : Value) (w : World) : Prop := match v with
  | .int .i64 r => R r w
  | _ => False
theorem seg_RecvBuf_Window.RV_elim {R : Int → World → Prop} {v : Value} {w : World} (h : seg_RecvBuf_Window.RV R v w) : ∃ r, Ending.returned v = .returned (.int .i64 r) ∧ R r w := by
  unfold seg_RecvBuf_Window.RV at h
  split at h
  · exact ⟨_, rfl, h⟩
  · exact h.elim
/-- (*e2e/seg.SendBuf).span -/
def seg_SendBuf_span.Call (b : Option Addr) (off n : Int) (w : World) (R : Option Addr → Nat → Nat → World → Prop) : Prop :=
  Calls Tryz.prog 215 #[.pointer b, .int .i64 off, .int .i64 n] w fun e w' => ∃ r_b r_l r_c, e = .returned (.slice r_b r_l r_c) ∧ R r_b r_l r_c w'
theorem seg_SendBuf_span.Call.mono {b off n} {w : World} {R R' : Option Addr → Nat → Nat → World → Prop} (h : seg_SendBuf_span.Call b off n w R) (hr : ∀ r_b r_l r_c w', R r_b r_l r_c w' → R' r_b r_l r_c w') : seg_SendBuf_span.Call b off n w R' :=
  Calls.mono h fun e w' he => by
    obtain ⟨r_b, r_l, r_c, h1, h2⟩ := he
    exact ⟨r_b, r_l, r_c, h1, hr r_b r_l r_c w' h2⟩
def seg_SendBuf_span.RV (R : Option Addr → Nat → Nat → World → Prop) (v : Value) (w : World) : Prop := match v with
  | .slice r_b r_l r_c => R r_b r_l r_c w
  | _ => False
theorem seg_SendBuf_span.RV_elim {R : Option Addr → Nat → Nat → World → Prop} {v : Value} {w : World} (h : seg_SendBuf_span.RV R v w) : ∃ r_b r_l r_c, Ending.returned v = .returned (.slice r_b r_l r_c) ∧ R r_b r_l r_c w := by
  unfold seg_SendBuf_span.RV at h
  split at h
  · exact ⟨_, _, _, rfl, h⟩
  · exact h.elim
/-- (*e2e/seg.SendBuf).Ack -/
def seg_SendBuf_Ack.Call (b : Option Addr) (a : Int) (w : World) (R : Int → World → Prop) : Prop :=
  Calls Tryz.prog 216 #[.pointer b, .int .i64 a] w fun e w' => ∃ r, e = .returned (.int .i64 r) ∧ R r w'
theorem seg_SendBuf_Ack.Call.mono {b a} {w : World} {R R' : Int → World → Prop} (h : seg_SendBuf_Ack.Call b a w R) (hr : ∀ r w', R r w' → R' r w') : seg_SendBuf_Ack.Call b a w R' :=
  Calls.mono h fun e w' he => by
    obtain ⟨r, h1, h2⟩ := he
    exact ⟨r, h1, hr r w' h2⟩
def seg_SendBuf_Ack.RV (R : Int → World → Prop) (v : Value) (w : World) : Prop := match v with
  | .int .i64 r => R r w
  | _ => False
theorem seg_SendBuf_Ack.RV_elim {R : Int → World → Prop} {v : Value} {w : World} (h : seg_SendBuf_Ack.RV R v w) : ∃ r, Ending.returned v = .returned (.int .i64 r) ∧ R r w := by
  unfold seg_SendBuf_Ack.RV at h
  split at h
  · exact ⟨_, rfl, h⟩
  · exact h.elim
/-- (*e2e/seg.RecvBuf).Insert -/
def seg_RecvBuf_Insert.Call (b : Option Addr) (seq : Int) (p_b : Option Addr) (p_l p_c : Nat) (w : World) (R : Int → World → Prop) : Prop :=
  Calls Tryz.prog 217 #[.pointer b, .int .i64 seq, .slice p_b p_l p_c] w fun e w' => ∃ r, e = .returned (.int .i64 r) ∧ R r w'
theorem seg_RecvBuf_Insert.Call.mono {b seq p_b p_l p_c} {w : World} {R R' : Int → World → Prop} (h : seg_RecvBuf_Insert.Call b seq p_b p_l p_c w R) (hr : ∀ r w', R r w' → R' r w') : seg_RecvBuf_Insert.Call b seq p_b p_l p_c w R' :=
  Calls.mono h fun e w' he => by
    obtain ⟨r, h1, h2⟩ := he
    exact ⟨r, h1, hr r w' h2⟩
def seg_RecvBuf_Insert.RV (R : Int → World → Prop) (v : Value) (w : World) : Prop := match v with
  | .int .i64 r => R r w
  | _ => False
theorem seg_RecvBuf_Insert.RV_elim {R : Int → World → Prop} {v : Value} {w : World} (h : seg_RecvBuf_Insert.RV R v w) : ∃ r, Ending.returned v = .returned (.int .i64 r) ∧ R r w := by
  unfold seg_RecvBuf_Insert.RV at h
  split at h
  · exact ⟨_, rfl, h⟩
  · exact h.elim
/-- (*e2e/seg.RecvBuf).bit -/
def seg_RecvBuf_bit.Call (b : Option Addr) (d : Int) (w : World) (R : Int → World → Prop) : Prop :=
  Calls Tryz.prog 218 #[.pointer b, .int .i64 d] w fun e w' => ∃ r, e = .returned (.int .u16 r) ∧ R r w'
theorem seg_RecvBuf_bit.Call.mono {b d} {w : World} {R R' : Int → World → Prop} (h : seg_RecvBuf_bit.Call b d w R) (hr : ∀ r w', R r w' → R' r w') : seg_RecvBuf_bit.Call b d w R' :=
  Calls.mono h fun e w' he => by
    obtain ⟨r, h1, h2⟩ := he
    exact ⟨r, h1, hr r w' h2⟩
def seg_RecvBuf_bit.RV (R : Int → World → Prop) (v : Value) (w : World) : Prop := match v with
  | .int .u16 r => R r w
  | _ => False
theorem seg_RecvBuf_bit.RV_elim {R : Int → World → Prop} {v : Value} {w : World} (h : seg_RecvBuf_bit.RV R v w) : ∃ r, Ending.returned v = .returned (.int .u16 r) ∧ R r w := by
  unfold seg_RecvBuf_bit.RV at h
  split at h
  · exact ⟨_, rfl, h⟩
  · exact h.elim
end Go.Proofs.Qxb6500424aGreat
