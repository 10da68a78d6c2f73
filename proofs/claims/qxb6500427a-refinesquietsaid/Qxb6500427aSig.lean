import Derived.Test.Qxb6500427aProg
import Derived.Test.Qxb6500427aVcC
open Go.Vc
namespace Go.Proofs.Qxb6500427a
theorem Try.mixed : Try.prog.follows .mixedOrders = true := by kernel_rfl
abbrev T_int64 : TypeId := 2
abbrev T_int : TypeId := 3
abbrev T_bool : TypeId := 4
abbrev T_uint8 : TypeId := 5
abbrev T_string : TypeId := 9
abbrev T_uintptr : TypeId := 12
abbrev T_int32 : TypeId := 21
abbrev T_socklaw_Desk : TypeId := 34
abbrev T_api_Op : TypeId := 38
abbrev T_api_SockEntry : TypeId := 40
abbrev T_sock_row : TypeId := 43
abbrev T_sock_Table : TypeId := 48
abbrev T_sockm_Table : TypeId := 51
abbrev T_sockm_row : TypeId := 63
abbrev T_api_Errno : TypeId := 64
abbrev T_uint : TypeId := 85
abbrev T_uint32 : TypeId := 92
/-- e2e/socklaw.Refines -/
def socklaw_Refines.Call (script_b : Option Addr) (script_l script_c : Nat) (w : World) (R : Bool → World → Prop) : Prop :=
  Calls Try.prog 3 #[.slice script_b script_l script_c] w fun e w' => ∃ r, e = .returned (.bool r) ∧ R r w'
theorem socklaw_Refines.Call.mono {script_b script_l script_c} {w : World} {R R' : Bool → World → Prop} (h : socklaw_Refines.Call script_b script_l script_c w R) (hr : ∀ r w', R r w' → R' r w') : socklaw_Refines.Call script_b script_l script_c w R' :=
  Calls.mono h fun e w' he => by
    obtain ⟨r, h1, h2⟩ := he
    exact ⟨r, h1, hr r w' h2⟩
def socklaw_Refines.RV (R : Bool → World → Prop) (v : Value) (w : World) : Prop := match v with
  | .bool r => R r w
  | _ => False
theorem socklaw_Refines.RV_elim {R : Bool → World → Prop} {v : Value} {w : World} (h : socklaw_Refines.RV R v w) : ∃ r, Ending.returned v = .returned (.bool r) ∧ R r w := by
  unfold socklaw_Refines.RV at h
  split at h
  · exact ⟨_, rfl, h⟩
  · exact h.elim
/-- e2e/socklaw.RefinesQuiet -/
def socklaw_RefinesQuiet.Call (script_b : Option Addr) (script_l script_c : Nat) (w : World) (R : Bool → World → Prop) : Prop :=
  Calls Try.prog 4 #[.slice script_b script_l script_c] w fun e w' => ∃ r, e = .returned (.bool r) ∧ R r w'
theorem socklaw_RefinesQuiet.Call.mono {script_b script_l script_c} {w : World} {R R' : Bool → World → Prop} (h : socklaw_RefinesQuiet.Call script_b script_l script_c w R) (hr : ∀ r w', R r w' → R' r w') : socklaw_RefinesQuiet.Call script_b script_l script_c w R' :=
  Calls.mono h fun e w' he => by
    obtain ⟨r, h1, h2⟩ := he
    exact ⟨r, h1, hr r w' h2⟩
def socklaw_RefinesQuiet.RV (R : Bool → World → Prop) (v : Value) (w : World) : Prop := match v with
  | .bool r => R r w
  | _ => False
theorem socklaw_RefinesQuiet.RV_elim {R : Bool → World → Prop} {v : Value} {w : World} (h : socklaw_RefinesQuiet.RV R v w) : ∃ r, Ending.returned v = .returned (.bool r) ∧ R r w := by
  unfold socklaw_RefinesQuiet.RV at h
  split at h
  · exact ⟨_, rfl, h⟩
  · exact h.elim
/-- e2e/socklaw.RefinesUpTo -/
def socklaw_RefinesUpTo.Call (script_b : Option Addr) (script_l script_c : Nat) (w : World) (R : Int → World → Prop) : Prop :=
  Calls Try.prog 5 #[.slice script_b script_l script_c] w fun e w' => ∃ r, e = .returned (.int .i64 r) ∧ R r w'
theorem socklaw_RefinesUpTo.Call.mono {script_b script_l script_c} {w : World} {R R' : Int → World → Prop} (h : socklaw_RefinesUpTo.Call script_b script_l script_c w R) (hr : ∀ r w', R r w' → R' r w') : socklaw_RefinesUpTo.Call script_b script_l script_c w R' :=
  Calls.mono h fun e w' he => by
    obtain ⟨r, h1, h2⟩ := he
    exact ⟨r, h1, hr r w' h2⟩
def socklaw_RefinesUpTo.RV (R : Int → World → Prop) (v : Value) (w : World) : Prop := match v with
  | .int .i64 r => R r w
  | _ => False
theorem socklaw_RefinesUpTo.RV_elim {R : Int → World → Prop} {v : Value} {w : World} (h : socklaw_RefinesUpTo.RV R v w) : ∃ r, Ending.returned v = .returned (.int .i64 r) ∧ R r w := by
  unfold socklaw_RefinesUpTo.RV at h
  split at h
  · exact ⟨_, rfl, h⟩
  · exact h.elim
/-- e2e/socklaw.walk -/
def socklaw_walk.Call (script_b : Option Addr) (script_l script_c : Nat) (quiet : Bool) (w : World) (R : Int → Int → World → Prop) : Prop :=
  Calls Try.prog 6 #[.slice script_b script_l script_c, .bool quiet] w fun e w' => ∃ r0 r1, e = .returned (.tuple #[.int .i64 r0, .int .i64 r1]) ∧ R r0 r1 w'
theorem socklaw_walk.Call.mono {script_b script_l script_c quiet} {w : World} {R R' : Int → Int → World → Prop} (h : socklaw_walk.Call script_b script_l script_c quiet w R) (hr : ∀ r0 r1 w', R r0 r1 w' → R' r0 r1 w') : socklaw_walk.Call script_b script_l script_c quiet w R' :=
  Calls.mono h fun e w' he => by
    obtain ⟨r0, r1, h1, h2⟩ := he
    exact ⟨r0, r1, h1, hr r0 r1 w' h2⟩
def socklaw_walk.RV (R : Int → Int → World → Prop) (v : Value) (w : World) : Prop := match v with
  | .tuple ⟨[.int .i64 r0, .int .i64 r1]⟩ => R r0 r1 w
  | _ => False
theorem socklaw_walk.RV_elim {R : Int → Int → World → Prop} {v : Value} {w : World} (h : socklaw_walk.RV R v w) : ∃ r0 r1, Ending.returned v = .returned (.tuple #[.int .i64 r0, .int .i64 r1]) ∧ R r0 r1 w := by
  unfold socklaw_walk.RV at h
  split at h
  · exact ⟨_, _, rfl, h⟩
  · exact h.elim
/-- e2e/sock.New -/
def sock_New.Call  (w : World) (R : Option Addr → World → Prop) : Prop :=
  Calls Try.prog 7 #[] w fun e w' => ∃ r, e = .returned (.pointer r) ∧ R r w'
theorem sock_New.Call.mono {w : World} {R R' : Option Addr → World → Prop} (h : sock_New.Call w R) (hr : ∀ r w', R r w' → R' r w') : sock_New.Call w R' :=
  Calls.mono h fun e w' he => by
    obtain ⟨r, h1, h2⟩ := he
    exact ⟨r, h1, hr r w' h2⟩
def sock_New.RV (R : Option Addr → World → Prop) (v : Value) (w : World) : Prop := match v with
  | .pointer r => R r w
  | _ => False
theorem sock_New.RV_elim {R : Option Addr → World → Prop} {v : Value} {w : World} (h : sock_New.RV R v w) : ∃ r, Ending.returned v = .returned (.pointer r) ∧ R r w := by
  unfold sock_New.RV at h
  split at h
  · exact ⟨_, rfl, h⟩
  · exact h.elim
/-- e2e/sockm.New -/
def sockm_New.Call  (w : World) (R : Option Addr → World → Prop) : Prop :=
  Calls Try.prog 8 #[] w fun e w' => ∃ r, e = .returned (.pointer r) ∧ R r w'
theorem sockm_New.Call.mono {w : World} {R R' : Option Addr → World → Prop} (h : sockm_New.Call w R) (hr : ∀ r w', R r w' → R' r w') : sockm_New.Call w R' :=
  Calls.mono h fun e w' he => by
    obtain ⟨r, h1, h2⟩ := he
    exact ⟨r, h1, hr r w' h2⟩
def sockm_New.RV (R : Option Addr → World → Prop) (v : Value) (w : World) : Prop := match v with
  | .pointer r => R r w
  | _ => False
theorem sockm_New.RV_elim {R : Option Addr → World → Prop} {v : Value} {w : World} (h : sockm_New.RV R v w) : ∃ r, Ending.returned v = .returned (.pointer r) ∧ R r w := by
  unfold sockm_New.RV at h
  split at h
  · exact ⟨_, rfl, h⟩
  · exact h.elim
/-- e2e/socklaw.Alike -/
def socklaw_Alike.Call (d : Option Addr) (w : World) (R : Bool → World → Prop) : Prop :=
  Calls Try.prog 9 #[.pointer d] w fun e w' => ∃ r, e = .returned (.bool r) ∧ R r w'
theorem socklaw_Alike.Call.mono {d} {w : World} {R R' : Bool → World → Prop} (h : socklaw_Alike.Call d w R) (hr : ∀ r w', R r w' → R' r w') : socklaw_Alike.Call d w R' :=
  Calls.mono h fun e w' he => by
    obtain ⟨r, h1, h2⟩ := he
    exact ⟨r, h1, hr r w' h2⟩
def socklaw_Alike.RV (R : Bool → World → Prop) (v : Value) (w : World) : Prop := match v with
  | .bool r => R r w
  | _ => False
theorem socklaw_Alike.RV_elim {R : Bool → World → Prop} {v : Value} {w : World} (h : socklaw_Alike.RV R v w) : ∃ r, Ending.returned v = .returned (.bool r) ∧ R r w := by
  unfold socklaw_Alike.RV at h
  split at h
  · exact ⟨_, rfl, h⟩
  · exact h.elim
/-- e2e/socklaw.Play -/
def socklaw_Play.Call (d : Option Addr) (o_0 o_1 o_2 o_3 : Int) (o_4 o_5 : ByteArray) (w : World) (R : Bool → World → Prop) : Prop :=
  Calls Try.prog 10 #[.pointer d, .agg #[.int .i64 o_0, .int .i64 o_1, .int .i64 o_2, .int .i64 o_3, .string o_4, .string o_5]] w fun e w' => ∃ r, e = .returned (.bool r) ∧ R r w'
theorem socklaw_Play.Call.mono {d o_0 o_1 o_2 o_3 o_4 o_5} {w : World} {R R' : Bool → World → Prop} (h : socklaw_Play.Call d o_0 o_1 o_2 o_3 o_4 o_5 w R) (hr : ∀ r w', R r w' → R' r w') : socklaw_Play.Call d o_0 o_1 o_2 o_3 o_4 o_5 w R' :=
  Calls.mono h fun e w' he => by
    obtain ⟨r, h1, h2⟩ := he
    exact ⟨r, h1, hr r w' h2⟩
def socklaw_Play.RV (R : Bool → World → Prop) (v : Value) (w : World) : Prop := match v with
  | .bool r => R r w
  | _ => False
theorem socklaw_Play.RV_elim {R : Bool → World → Prop} {v : Value} {w : World} (h : socklaw_Play.RV R v w) : ∃ r, Ending.returned v = .returned (.bool r) ∧ R r w := by
  unfold socklaw_Play.RV at h
  split at h
  · exact ⟨_, rfl, h⟩
  · exact h.elim
/-- e2e/socklaw.Untouched -/
def socklaw_Untouched.Call (d : Option Addr) (w : World) (R : Bool → World → Prop) : Prop :=
  Calls Try.prog 11 #[.pointer d] w fun e w' => ∃ r, e = .returned (.bool r) ∧ R r w'
theorem socklaw_Untouched.Call.mono {d} {w : World} {R R' : Bool → World → Prop} (h : socklaw_Untouched.Call d w R) (hr : ∀ r w', R r w' → R' r w') : socklaw_Untouched.Call d w R' :=
  Calls.mono h fun e w' he => by
    obtain ⟨r, h1, h2⟩ := he
    exact ⟨r, h1, hr r w' h2⟩
def socklaw_Untouched.RV (R : Bool → World → Prop) (v : Value) (w : World) : Prop := match v with
  | .bool r => R r w
  | _ => False
theorem socklaw_Untouched.RV_elim {R : Bool → World → Prop} {v : Value} {w : World} (h : socklaw_Untouched.RV R v w) : ∃ r, Ending.returned v = .returned (.bool r) ∧ R r w := by
  unfold socklaw_Untouched.RV at h
  split at h
  · exact ⟨_, rfl, h⟩
  · exact h.elim
/-- e2e/socklaw.SameNext -/
def socklaw_SameNext.Call (x m0 : Option Addr) (w : World) (R : Bool → World → Prop) : Prop :=
  Calls Try.prog 12 #[.pointer x, .pointer m0] w fun e w' => ∃ r, e = .returned (.bool r) ∧ R r w'
theorem socklaw_SameNext.Call.mono {x m0} {w : World} {R R' : Bool → World → Prop} (h : socklaw_SameNext.Call x m0 w R) (hr : ∀ r w', R r w' → R' r w') : socklaw_SameNext.Call x m0 w R' :=
  Calls.mono h fun e w' he => by
    obtain ⟨r, h1, h2⟩ := he
    exact ⟨r, h1, hr r w' h2⟩
def socklaw_SameNext.RV (R : Bool → World → Prop) (v : Value) (w : World) : Prop := match v with
  | .bool r => R r w
  | _ => False
theorem socklaw_SameNext.RV_elim {R : Bool → World → Prop} {v : Value} {w : World} (h : socklaw_SameNext.RV R v w) : ∃ r, Ending.returned v = .returned (.bool r) ∧ R r w := by
  unfold socklaw_SameNext.RV at h
  split at h
  · exact ⟨_, rfl, h⟩
  · exact h.elim
/-- e2e/socklaw.SameList -/
def socklaw_SameList.Call (d : Option Addr) (w : World) (R : Bool → World → Prop) : Prop :=
  Calls Try.prog 13 #[.pointer d] w fun e w' => ∃ r, e = .returned (.bool r) ∧ R r w'
theorem socklaw_SameList.Call.mono {d} {w : World} {R R' : Bool → World → Prop} (h : socklaw_SameList.Call d w R) (hr : ∀ r w', R r w' → R' r w') : socklaw_SameList.Call d w R' :=
  Calls.mono h fun e w' he => by
    obtain ⟨r, h1, h2⟩ := he
    exact ⟨r, h1, hr r w' h2⟩
def socklaw_SameList.RV (R : Bool → World → Prop) (v : Value) (w : World) : Prop := match v with
  | .bool r => R r w
  | _ => False
theorem socklaw_SameList.RV_elim {R : Bool → World → Prop} {v : Value} {w : World} (h : socklaw_SameList.RV R v w) : ∃ r, Ending.returned v = .returned (.bool r) ∧ R r w := by
  unfold socklaw_SameList.RV at h
  split at h
  · exact ⟨_, rfl, h⟩
  · exact h.elim
/-- (*e2e/sockm.Table).List -/
def sockm_Table_List.Call (t : Option Addr) (w : World) (R : Option Addr → Nat → Nat → World → Prop) : Prop :=
  Calls Try.prog 14 #[.pointer t] w fun e w' => ∃ r_b r_l r_c, e = .returned (.slice r_b r_l r_c) ∧ R r_b r_l r_c w'
theorem sockm_Table_List.Call.mono {t} {w : World} {R R' : Option Addr → Nat → Nat → World → Prop} (h : sockm_Table_List.Call t w R) (hr : ∀ r_b r_l r_c w', R r_b r_l r_c w' → R' r_b r_l r_c w') : sockm_Table_List.Call t w R' :=
  Calls.mono h fun e w' he => by
    obtain ⟨r_b, r_l, r_c, h1, h2⟩ := he
    exact ⟨r_b, r_l, r_c, h1, hr r_b r_l r_c w' h2⟩
def sockm_Table_List.RV (R : Option Addr → Nat → Nat → World → Prop) (v : Value) (w : World) : Prop := match v with
  | .slice r_b r_l r_c => R r_b r_l r_c w
  | _ => False
theorem sockm_Table_List.RV_elim {R : Option Addr → Nat → Nat → World → Prop} {v : Value} {w : World} (h : sockm_Table_List.RV R v w) : ∃ r_b r_l r_c, Ending.returned v = .returned (.slice r_b r_l r_c) ∧ R r_b r_l r_c w := by
  unfold sockm_Table_List.RV at h
  split at h
  · exact ⟨_, _, _, rfl, h⟩
  · exact h.elim
/-- e2e/socklaw.SameRow -/
def socklaw_SameRow.Call (d : Option Addr) (sd : Int) (w : World) (R : Bool → World → Prop) : Prop :=
  Calls Try.prog 15 #[.pointer d, .int .i64 sd] w fun e w' => ∃ r, e = .returned (.bool r) ∧ R r w'
theorem socklaw_SameRow.Call.mono {d sd} {w : World} {R R' : Bool → World → Prop} (h : socklaw_SameRow.Call d sd w R) (hr : ∀ r w', R r w' → R' r w') : socklaw_SameRow.Call d sd w R' :=
  Calls.mono h fun e w' he => by
    obtain ⟨r, h1, h2⟩ := he
    exact ⟨r, h1, hr r w' h2⟩
def socklaw_SameRow.RV (R : Bool → World → Prop) (v : Value) (w : World) : Prop := match v with
  | .bool r => R r w
  | _ => False
theorem socklaw_SameRow.RV_elim {R : Bool → World → Prop} {v : Value} {w : World} (h : socklaw_SameRow.RV R v w) : ∃ r, Ending.returned v = .returned (.bool r) ∧ R r w := by
  unfold socklaw_SameRow.RV at h
  split at h
  · exact ⟨_, rfl, h⟩
  · exact h.elim
/-- e2e/socklaw.SameListener -/
def socklaw_SameListener.Call (x m0 : Option Addr) (lport : Int) (w : World) (R : Bool → World → Prop) : Prop :=
  Calls Try.prog 16 #[.pointer x, .pointer m0, .int .i64 lport] w fun e w' => ∃ r, e = .returned (.bool r) ∧ R r w'
theorem socklaw_SameListener.Call.mono {x m0 lport} {w : World} {R R' : Bool → World → Prop} (h : socklaw_SameListener.Call x m0 lport w R) (hr : ∀ r w', R r w' → R' r w') : socklaw_SameListener.Call x m0 lport w R' :=
  Calls.mono h fun e w' he => by
    obtain ⟨r, h1, h2⟩ := he
    exact ⟨r, h1, hr r w' h2⟩
def socklaw_SameListener.RV (R : Bool → World → Prop) (v : Value) (w : World) : Prop := match v with
  | .bool r => R r w
  | _ => False
theorem socklaw_SameListener.RV_elim {R : Bool → World → Prop} {v : Value} {w : World} (h : socklaw_SameListener.RV R v w) : ∃ r, Ending.returned v = .returned (.bool r) ∧ R r w := by
  unfold socklaw_SameListener.RV at h
  split at h
  · exact ⟨_, rfl, h⟩
  · exact h.elim
/-- e2e/socklaw.SameGet -/
def socklaw_SameGet.Call (x m0 : Option Addr) (sd : Int) (w : World) (R : Bool → World → Prop) : Prop :=
  Calls Try.prog 17 #[.pointer x, .pointer m0, .int .i64 sd] w fun e w' => ∃ r, e = .returned (.bool r) ∧ R r w'
theorem socklaw_SameGet.Call.mono {x m0 sd} {w : World} {R R' : Bool → World → Prop} (h : socklaw_SameGet.Call x m0 sd w R) (hr : ∀ r w', R r w' → R' r w') : socklaw_SameGet.Call x m0 sd w R' :=
  Calls.mono h fun e w' he => by
    obtain ⟨r, h1, h2⟩ := he
    exact ⟨r, h1, hr r w' h2⟩
def socklaw_SameGet.RV (R : Bool → World → Prop) (v : Value) (w : World) : Prop := match v with
  | .bool r => R r w
  | _ => False
theorem socklaw_SameGet.RV_elim {R : Bool → World → Prop} {v : Value} {w : World} (h : socklaw_SameGet.RV R v w) : ∃ r, Ending.returned v = .returned (.bool r) ∧ R r w := by
  unfold socklaw_SameGet.RV at h
  split at h
  · exact ⟨_, rfl, h⟩
  · exact h.elim
/-- (*e2e/sock.Table).Check -/
def sock_Table_Check.Call (t : Option Addr) (w : World) (R : Bool → World → Prop) : Prop :=
  Calls Try.prog 18 #[.pointer t] w fun e w' => ∃ r, e = .returned (.bool r) ∧ R r w'
theorem sock_Table_Check.Call.mono {t} {w : World} {R R' : Bool → World → Prop} (h : sock_Table_Check.Call t w R) (hr : ∀ r w', R r w' → R' r w') : sock_Table_Check.Call t w R' :=
  Calls.mono h fun e w' he => by
    obtain ⟨r, h1, h2⟩ := he
    exact ⟨r, h1, hr r w' h2⟩
def sock_Table_Check.RV (R : Bool → World → Prop) (v : Value) (w : World) : Prop := match v with
  | .bool r => R r w
  | _ => False
theorem sock_Table_Check.RV_elim {R : Bool → World → Prop} {v : Value} {w : World} (h : sock_Table_Check.RV R v w) : ∃ r, Ending.returned v = .returned (.bool r) ∧ R r w := by
  unfold sock_Table_Check.RV at h
  split at h
  · exact ⟨_, rfl, h⟩
  · exact h.elim
/-- e2e/socklaw.SameListen -/
def socklaw_SameListen.Call (x m0 : Option Addr) (port : Int) (w : World) (R : Bool → World → Prop) : Prop :=
  Calls Try.prog 19 #[.pointer x, .pointer m0, .int .i64 port] w fun e w' => ∃ r, e = .returned (.bool r) ∧ R r w'
theorem socklaw_SameListen.Call.mono {x m0 port} {w : World} {R R' : Bool → World → Prop} (h : socklaw_SameListen.Call x m0 port w R) (hr : ∀ r w', R r w' → R' r w') : socklaw_SameListen.Call x m0 port w R' :=
  Calls.mono h fun e w' he => by
    obtain ⟨r, h1, h2⟩ := he
    exact ⟨r, h1, hr r w' h2⟩
def socklaw_SameListen.RV (R : Bool → World → Prop) (v : Value) (w : World) : Prop := match v with
  | .bool r => R r w
  | _ => False
theorem socklaw_SameListen.RV_elim {R : Bool → World → Prop} {v : Value} {w : World} (h : socklaw_SameListen.RV R v w) : ∃ r, Ending.returned v = .returned (.bool r) ∧ R r w := by
  unfold socklaw_SameListen.RV at h
  split at h
  · exact ⟨_, rfl, h⟩
  · exact h.elim
/-- e2e/socklaw.SameConnect -/
def socklaw_SameConnect.Call (x m0 : Option Addr) (rhost rport : Int) (w : World) (R : Bool → World → Prop) : Prop :=
  Calls Try.prog 20 #[.pointer x, .pointer m0, .int .i64 rhost, .int .i64 rport] w fun e w' => ∃ r, e = .returned (.bool r) ∧ R r w'
theorem socklaw_SameConnect.Call.mono {x m0 rhost rport} {w : World} {R R' : Bool → World → Prop} (h : socklaw_SameConnect.Call x m0 rhost rport w R) (hr : ∀ r w', R r w' → R' r w') : socklaw_SameConnect.Call x m0 rhost rport w R' :=
  Calls.mono h fun e w' he => by
    obtain ⟨r, h1, h2⟩ := he
    exact ⟨r, h1, hr r w' h2⟩
def socklaw_SameConnect.RV (R : Bool → World → Prop) (v : Value) (w : World) : Prop := match v with
  | .bool r => R r w
  | _ => False
theorem socklaw_SameConnect.RV_elim {R : Bool → World → Prop} {v : Value} {w : World} (h : socklaw_SameConnect.RV R v w) : ∃ r, Ending.returned v = .returned (.bool r) ∧ R r w := by
  unfold socklaw_SameConnect.RV at h
  split at h
  · exact ⟨_, rfl, h⟩
  · exact h.elim
/-- e2e/socklaw.SameChild -/
def socklaw_SameChild.Call (x m0 : Option Addr) (lport rhost rport : Int) (w : World) (R : Bool → World → Prop) : Prop :=
  Calls Try.prog 21 #[.pointer x, .pointer m0, .int .i64 lport, .int .i64 rhost, .int .i64 rport] w fun e w' => ∃ r, e = .returned (.bool r) ∧ R r w'
theorem socklaw_SameChild.Call.mono {x m0 lport rhost rport} {w : World} {R R' : Bool → World → Prop} (h : socklaw_SameChild.Call x m0 lport rhost rport w R) (hr : ∀ r w', R r w' → R' r w') : socklaw_SameChild.Call x m0 lport rhost rport w R' :=
  Calls.mono h fun e w' he => by
    obtain ⟨r, h1, h2⟩ := he
    exact ⟨r, h1, hr r w' h2⟩
def socklaw_SameChild.RV (R : Bool → World → Prop) (v : Value) (w : World) : Prop := match v with
  | .bool r => R r w
  | _ => False
theorem socklaw_SameChild.RV_elim {R : Bool → World → Prop} {v : Value} {w : World} (h : socklaw_SameChild.RV R v w) : ∃ r, Ending.returned v = .returned (.bool r) ∧ R r w := by
  unfold socklaw_SameChild.RV at h
  split at h
  · exact ⟨_, rfl, h⟩
  · exact h.elim
/-- e2e/socklaw.SameReady -/
def socklaw_SameReady.Call (x m0 : Option Addr) (sd : Int) (w : World) (R : Bool → World → Prop) : Prop :=
  Calls Try.prog 22 #[.pointer x, .pointer m0, .int .i64 sd] w fun e w' => ∃ r, e = .returned (.bool r) ∧ R r w'
theorem socklaw_SameReady.Call.mono {x m0 sd} {w : World} {R R' : Bool → World → Prop} (h : socklaw_SameReady.Call x m0 sd w R) (hr : ∀ r w', R r w' → R' r w') : socklaw_SameReady.Call x m0 sd w R' :=
  Calls.mono h fun e w' he => by
    obtain ⟨r, h1, h2⟩ := he
    exact ⟨r, h1, hr r w' h2⟩
def socklaw_SameReady.RV (R : Bool → World → Prop) (v : Value) (w : World) : Prop := match v with
  | .bool r => R r w
  | _ => False
theorem socklaw_SameReady.RV_elim {R : Bool → World → Prop} {v : Value} {w : World} (h : socklaw_SameReady.RV R v w) : ∃ r, Ending.returned v = .returned (.bool r) ∧ R r w := by
  unfold socklaw_SameReady.RV at h
  split at h
  · exact ⟨_, rfl, h⟩
  · exact h.elim
/-- e2e/socklaw.SameAccept -/
def socklaw_SameAccept.Call (x m0 : Option Addr) (lsd : Int) (w : World) (R : Bool → World → Prop) : Prop :=
  Calls Try.prog 23 #[.pointer x, .pointer m0, .int .i64 lsd] w fun e w' => ∃ r, e = .returned (.bool r) ∧ R r w'
theorem socklaw_SameAccept.Call.mono {x m0 lsd} {w : World} {R R' : Bool → World → Prop} (h : socklaw_SameAccept.Call x m0 lsd w R) (hr : ∀ r w', R r w' → R' r w') : socklaw_SameAccept.Call x m0 lsd w R' :=
  Calls.mono h fun e w' he => by
    obtain ⟨r, h1, h2⟩ := he
    exact ⟨r, h1, hr r w' h2⟩
def socklaw_SameAccept.RV (R : Bool → World → Prop) (v : Value) (w : World) : Prop := match v with
  | .bool r => R r w
  | _ => False
theorem socklaw_SameAccept.RV_elim {R : Bool → World → Prop} {v : Value} {w : World} (h : socklaw_SameAccept.RV R v w) : ∃ r, Ending.returned v = .returned (.bool r) ∧ R r w := by
  unfold socklaw_SameAccept.RV at h
  split at h
  · exact ⟨_, rfl, h⟩
  · exact h.elim
/-- e2e/socklaw.SameFree -/
def socklaw_SameFree.Call (x m0 : Option Addr) (sd : Int) (w : World) (R : Bool → World → Prop) : Prop :=
  Calls Try.prog 24 #[.pointer x, .pointer m0, .int .i64 sd] w fun e w' => ∃ r, e = .returned (.bool r) ∧ R r w'
theorem socklaw_SameFree.Call.mono {x m0 sd} {w : World} {R R' : Bool → World → Prop} (h : socklaw_SameFree.Call x m0 sd w R) (hr : ∀ r w', R r w' → R' r w') : socklaw_SameFree.Call x m0 sd w R' :=
  Calls.mono h fun e w' he => by
    obtain ⟨r, h1, h2⟩ := he
    exact ⟨r, h1, hr r w' h2⟩
def socklaw_SameFree.RV (R : Bool → World → Prop) (v : Value) (w : World) : Prop := match v with
  | .bool r => R r w
  | _ => False
theorem socklaw_SameFree.RV_elim {R : Bool → World → Prop} {v : Value} {w : World} (h : socklaw_SameFree.RV R v w) : ∃ r, Ending.returned v = .returned (.bool r) ∧ R r w := by
  unfold socklaw_SameFree.RV at h
  split at h
  · exact ⟨_, rfl, h⟩
  · exact h.elim
/-- e2e/socklaw.SameLookup -/
def socklaw_SameLookup.Call (x m0 : Option Addr) (lport rhost rport : Int) (w : World) (R : Bool → World → Prop) : Prop :=
  Calls Try.prog 25 #[.pointer x, .pointer m0, .int .i64 lport, .int .i64 rhost, .int .i64 rport] w fun e w' => ∃ r, e = .returned (.bool r) ∧ R r w'
theorem socklaw_SameLookup.Call.mono {x m0 lport rhost rport} {w : World} {R R' : Bool → World → Prop} (h : socklaw_SameLookup.Call x m0 lport rhost rport w R) (hr : ∀ r w', R r w' → R' r w') : socklaw_SameLookup.Call x m0 lport rhost rport w R' :=
  Calls.mono h fun e w' he => by
    obtain ⟨r, h1, h2⟩ := he
    exact ⟨r, h1, hr r w' h2⟩
def socklaw_SameLookup.RV (R : Bool → World → Prop) (v : Value) (w : World) : Prop := match v with
  | .bool r => R r w
  | _ => False
theorem socklaw_SameLookup.RV_elim {R : Bool → World → Prop} {v : Value} {w : World} (h : socklaw_SameLookup.RV R v w) : ∃ r, Ending.returned v = .returned (.bool r) ∧ R r w := by
  unfold socklaw_SameLookup.RV at h
  split at h
  · exact ⟨_, rfl, h⟩
  · exact h.elim
/-- e2e/socklaw.SameQueue -/
def socklaw_SameQueue.Call (d : Option Addr) (lsd : Int) (w : World) (R : Bool → World → Prop) : Prop :=
  Calls Try.prog 26 #[.pointer d, .int .i64 lsd] w fun e w' => ∃ r, e = .returned (.bool r) ∧ R r w'
theorem socklaw_SameQueue.Call.mono {d lsd} {w : World} {R R' : Bool → World → Prop} (h : socklaw_SameQueue.Call d lsd w R) (hr : ∀ r w', R r w' → R' r w') : socklaw_SameQueue.Call d lsd w R' :=
  Calls.mono h fun e w' he => by
    obtain ⟨r, h1, h2⟩ := he
    exact ⟨r, h1, hr r w' h2⟩
def socklaw_SameQueue.RV (R : Bool → World → Prop) (v : Value) (w : World) : Prop := match v with
  | .bool r => R r w
  | _ => False
theorem socklaw_SameQueue.RV_elim {R : Bool → World → Prop} {v : Value} {w : World} (h : socklaw_SameQueue.RV R v w) : ∃ r, Ending.returned v = .returned (.bool r) ∧ R r w := by
  unfold socklaw_SameQueue.RV at h
  split at h
  · exact ⟨_, rfl, h⟩
  · exact h.elim
/-- (*e2e/sock.Table).Next -/
def sock_Table_Next.Call (t : Option Addr) (w : World) (R : Int → Int → World → Prop) : Prop :=
  Calls Try.prog 27 #[.pointer t] w fun e w' => ∃ r0 r1, e = .returned (.tuple #[.int .i64 r0, .int .i64 r1]) ∧ R r0 r1 w'
theorem sock_Table_Next.Call.mono {t} {w : World} {R R' : Int → Int → World → Prop} (h : sock_Table_Next.Call t w R) (hr : ∀ r0 r1 w', R r0 r1 w' → R' r0 r1 w') : sock_Table_Next.Call t w R' :=
  Calls.mono h fun e w' he => by
    obtain ⟨r0, r1, h1, h2⟩ := he
    exact ⟨r0, r1, h1, hr r0 r1 w' h2⟩
def sock_Table_Next.RV (R : Int → Int → World → Prop) (v : Value) (w : World) : Prop := match v with
  | .tuple ⟨[.int .i64 r0, .int .i64 r1]⟩ => R r0 r1 w
  | _ => False
theorem sock_Table_Next.RV_elim {R : Int → Int → World → Prop} {v : Value} {w : World} (h : sock_Table_Next.RV R v w) : ∃ r0 r1, Ending.returned v = .returned (.tuple #[.int .i64 r0, .int .i64 r1]) ∧ R r0 r1 w := by
  unfold sock_Table_Next.RV at h
  split at h
  · exact ⟨_, _, rfl, h⟩
  · exact h.elim
/-- (*e2e/sockm.Table).Next -/
def sockm_Table_Next.Call (t : Option Addr) (w : World) (R : Int → Int → World → Prop) : Prop :=
  Calls Try.prog 28 #[.pointer t] w fun e w' => ∃ r0 r1, e = .returned (.tuple #[.int .i64 r0, .int .i64 r1]) ∧ R r0 r1 w'
theorem sockm_Table_Next.Call.mono {t} {w : World} {R R' : Int → Int → World → Prop} (h : sockm_Table_Next.Call t w R) (hr : ∀ r0 r1 w', R r0 r1 w' → R' r0 r1 w') : sockm_Table_Next.Call t w R' :=
  Calls.mono h fun e w' he => by
    obtain ⟨r0, r1, h1, h2⟩ := he
    exact ⟨r0, r1, h1, hr r0 r1 w' h2⟩
def sockm_Table_Next.RV (R : Int → Int → World → Prop) (v : Value) (w : World) : Prop := match v with
  | .tuple ⟨[.int .i64 r0, .int .i64 r1]⟩ => R r0 r1 w
  | _ => False
theorem sockm_Table_Next.RV_elim {R : Int → Int → World → Prop} {v : Value} {w : World} (h : sockm_Table_Next.RV R v w) : ∃ r0 r1, Ending.returned v = .returned (.tuple #[.int .i64 r0, .int .i64 r1]) ∧ R r0 r1 w := by
  unfold sockm_Table_Next.RV at h
  split at h
  · exact ⟨_, _, rfl, h⟩
  · exact h.elim
/-- (*e2e/sock.Table).List -/
def sock_Table_List.Call (t : Option Addr) (w : World) (R : Option Addr → Nat → Nat → World → Prop) : Prop :=
  Calls Try.prog 29 #[.pointer t] w fun e w' => ∃ r_b r_l r_c, e = .returned (.slice r_b r_l r_c) ∧ R r_b r_l r_c w'
theorem sock_Table_List.Call.mono {t} {w : World} {R R' : Option Addr → Nat → Nat → World → Prop} (h : sock_Table_List.Call t w R) (hr : ∀ r_b r_l r_c w', R r_b r_l r_c w' → R' r_b r_l r_c w') : sock_Table_List.Call t w R' :=
  Calls.mono h fun e w' he => by
    obtain ⟨r_b, r_l, r_c, h1, h2⟩ := he
    exact ⟨r_b, r_l, r_c, h1, hr r_b r_l r_c w' h2⟩
def sock_Table_List.RV (R : Option Addr → Nat → Nat → World → Prop) (v : Value) (w : World) : Prop := match v with
  | .slice r_b r_l r_c => R r_b r_l r_c w
  | _ => False
theorem sock_Table_List.RV_elim {R : Option Addr → Nat → Nat → World → Prop} {v : Value} {w : World} (h : sock_Table_List.RV R v w) : ∃ r_b r_l r_c, Ending.returned v = .returned (.slice r_b r_l r_c) ∧ R r_b r_l r_c w := by
  unfold sock_Table_List.RV at h
  split at h
  · exact ⟨_, _, _, rfl, h⟩
  · exact h.elim
/-- e2e/socklaw.SameInts -/
def socklaw_SameInts.Call (d a_b : Option Addr) (a_l a_c : Nat) (b_b : Option Addr) (b_l b_c : Nat) (w : World) (R : Bool → World → Prop) : Prop :=
  Calls Try.prog 30 #[.pointer d, .slice a_b a_l a_c, .slice b_b b_l b_c] w fun e w' => ∃ r, e = .returned (.bool r) ∧ R r w'
theorem socklaw_SameInts.Call.mono {d a_b a_l a_c b_b b_l b_c} {w : World} {R R' : Bool → World → Prop} (h : socklaw_SameInts.Call d a_b a_l a_c b_b b_l b_c w R) (hr : ∀ r w', R r w' → R' r w') : socklaw_SameInts.Call d a_b a_l a_c b_b b_l b_c w R' :=
  Calls.mono h fun e w' he => by
    obtain ⟨r, h1, h2⟩ := he
    exact ⟨r, h1, hr r w' h2⟩
def socklaw_SameInts.RV (R : Bool → World → Prop) (v : Value) (w : World) : Prop := match v with
  | .bool r => R r w
  | _ => False
theorem socklaw_SameInts.RV_elim {R : Bool → World → Prop} {v : Value} {w : World} (h : socklaw_SameInts.RV R v w) : ∃ r, Ending.returned v = .returned (.bool r) ∧ R r w := by
  unfold socklaw_SameInts.RV at h
  split at h
  · exact ⟨_, rfl, h⟩
  · exact h.elim
/-- (*e2e/sockm.Table).Get -/
def sockm_Table_Get.Call (t : Option Addr) (sd : Int) (w : World) (R : Int → Int → Int → Int → Int → Int → Int → Bool → Int → World → Prop) : Prop :=
  Calls Try.prog 31 #[.pointer t, .int .i64 sd] w fun e w' => ∃ r0_0 r0_1 r0_2 r0_3 r0_4 r0_5 r0_6 r0_7 r1, e = .returned (.tuple #[.agg #[.int .i64 r0_0, .int .i64 r0_1, .int .i64 r0_2, .int .i64 r0_3, .int .i64 r0_4, .int .i64 r0_5, .int .i64 r0_6, .bool r0_7], .int .i64 r1]) ∧ R r0_0 r0_1 r0_2 r0_3 r0_4 r0_5 r0_6 r0_7 r1 w'
theorem sockm_Table_Get.Call.mono {t sd} {w : World} {R R' : Int → Int → Int → Int → Int → Int → Int → Bool → Int → World → Prop} (h : sockm_Table_Get.Call t sd w R) (hr : ∀ r0_0 r0_1 r0_2 r0_3 r0_4 r0_5 r0_6 r0_7 r1 w', R r0_0 r0_1 r0_2 r0_3 r0_4 r0_5 r0_6 r0_7 r1 w' → R' r0_0 r0_1 r0_2 r0_3 r0_4 r0_5 r0_6 r0_7 r1 w') : sockm_Table_Get.Call t sd w R' :=
  Calls.mono h fun e w' he => by
    obtain ⟨r0_0, r0_1, r0_2, r0_3, r0_4, r0_5, r0_6, r0_7, r1, h1, h2⟩ := he
    exact ⟨r0_0, r0_1, r0_2, r0_3, r0_4, r0_5, r0_6, r0_7, r1, h1, hr r0_0 r0_1 r0_2 r0_3 r0_4 r0_5 r0_6 r0_7 r1 w' h2⟩
def sockm_Table_Get.RV (R : Int → Int → Int → Int → Int → Int → Int → Bool → Int → World → Prop) (v : Value) (w : World) : Prop := match v with
  | .tuple ⟨[.agg ⟨[.int .i64 r0_0, .int .i64 r0_1, .int .i64 r0_2, .int .i64 r0_3, .int .i64 r0_4, .int .i64 r0_5, .int .i64 r0_6, .bool r0_7]⟩, .int .i64 r1]⟩ => R r0_0 r0_1 r0_2 r0_3 r0_4 r0_5 r0_6 r0_7 r1 w
  | _ => False
theorem sockm_Table_Get.RV_elim {R : Int → Int → Int → Int → Int → Int → Int → Bool → Int → World → Prop} {v : Value} {w : World} (h : sockm_Table_Get.RV R v w) : ∃ r0_0 r0_1 r0_2 r0_3 r0_4 r0_5 r0_6 r0_7 r1, Ending.returned v = .returned (.tuple #[.agg #[.int .i64 r0_0, .int .i64 r0_1, .int .i64 r0_2, .int .i64 r0_3, .int .i64 r0_4, .int .i64 r0_5, .int .i64 r0_6, .bool r0_7], .int .i64 r1]) ∧ R r0_0 r0_1 r0_2 r0_3 r0_4 r0_5 r0_6 r0_7 r1 w := by
  unfold sockm_Table_Get.RV at h
  split at h
  · exact ⟨_, _, _, _, _, _, _, _, _, rfl, h⟩
  · exact h.elim
/-- (*e2e/sock.Table).Lookup -/
def sock_Table_Lookup.Call (t : Option Addr) (lport rhost rport : Int) (w : World) (R : Int → World → Prop) : Prop :=
  Calls Try.prog 32 #[.pointer t, .int .i64 lport, .int .i64 rhost, .int .i64 rport] w fun e w' => ∃ r, e = .returned (.int .i64 r) ∧ R r w'
theorem sock_Table_Lookup.Call.mono {t lport rhost rport} {w : World} {R R' : Int → World → Prop} (h : sock_Table_Lookup.Call t lport rhost rport w R) (hr : ∀ r w', R r w' → R' r w') : sock_Table_Lookup.Call t lport rhost rport w R' :=
  Calls.mono h fun e w' he => by
    obtain ⟨r, h1, h2⟩ := he
    exact ⟨r, h1, hr r w' h2⟩
def sock_Table_Lookup.RV (R : Int → World → Prop) (v : Value) (w : World) : Prop := match v with
  | .int .i64 r => R r w
  | _ => False
theorem sock_Table_Lookup.RV_elim {R : Int → World → Prop} {v : Value} {w : World} (h : sock_Table_Lookup.RV R v w) : ∃ r, Ending.returned v = .returned (.int .i64 r) ∧ R r w := by
  unfold sock_Table_Lookup.RV at h
  split at h
  · exact ⟨_, rfl, h⟩
  · exact h.elim
/-- (*e2e/sock.Table).Listener -/
def sock_Table_Listener.Call (t : Option Addr) (lport : Int) (w : World) (R : Int → World → Prop) : Prop :=
  Calls Try.prog 33 #[.pointer t, .int .i64 lport] w fun e w' => ∃ r, e = .returned (.int .i64 r) ∧ R r w'
theorem sock_Table_Listener.Call.mono {t lport} {w : World} {R R' : Int → World → Prop} (h : sock_Table_Listener.Call t lport w R) (hr : ∀ r w', R r w' → R' r w') : sock_Table_Listener.Call t lport w R' :=
  Calls.mono h fun e w' he => by
    obtain ⟨r, h1, h2⟩ := he
    exact ⟨r, h1, hr r w' h2⟩
def sock_Table_Listener.RV (R : Int → World → Prop) (v : Value) (w : World) : Prop := match v with
  | .int .i64 r => R r w
  | _ => False
theorem sock_Table_Listener.RV_elim {R : Int → World → Prop} {v : Value} {w : World} (h : sock_Table_Listener.RV R v w) : ∃ r, Ending.returned v = .returned (.int .i64 r) ∧ R r w := by
  unfold sock_Table_Listener.RV at h
  split at h
  · exact ⟨_, rfl, h⟩
  · exact h.elim
/-- (*e2e/sockm.Table).Listener -/
def sockm_Table_Listener.Call (t : Option Addr) (lport : Int) (w : World) (R : Int → World → Prop) : Prop :=
  Calls Try.prog 34 #[.pointer t, .int .i64 lport] w fun e w' => ∃ r, e = .returned (.int .i64 r) ∧ R r w'
theorem sockm_Table_Listener.Call.mono {t lport} {w : World} {R R' : Int → World → Prop} (h : sockm_Table_Listener.Call t lport w R) (hr : ∀ r w', R r w' → R' r w') : sockm_Table_Listener.Call t lport w R' :=
  Calls.mono h fun e w' he => by
    obtain ⟨r, h1, h2⟩ := he
    exact ⟨r, h1, hr r w' h2⟩
def sockm_Table_Listener.RV (R : Int → World → Prop) (v : Value) (w : World) : Prop := match v with
  | .int .i64 r => R r w
  | _ => False
theorem sockm_Table_Listener.RV_elim {R : Int → World → Prop} {v : Value} {w : World} (h : sockm_Table_Listener.RV R v w) : ∃ r, Ending.returned v = .returned (.int .i64 r) ∧ R r w := by
  unfold sockm_Table_Listener.RV at h
  split at h
  · exact ⟨_, rfl, h⟩
  · exact h.elim
/-- (*e2e/sock.Table).Get -/
def sock_Table_Get.Call (t : Option Addr) (sd : Int) (w : World) (R : Int → Int → Int → Int → Int → Int → Int → Bool → Int → World → Prop) : Prop :=
  Calls Try.prog 35 #[.pointer t, .int .i64 sd] w fun e w' => ∃ r0_0 r0_1 r0_2 r0_3 r0_4 r0_5 r0_6 r0_7 r1, e = .returned (.tuple #[.agg #[.int .i64 r0_0, .int .i64 r0_1, .int .i64 r0_2, .int .i64 r0_3, .int .i64 r0_4, .int .i64 r0_5, .int .i64 r0_6, .bool r0_7], .int .i64 r1]) ∧ R r0_0 r0_1 r0_2 r0_3 r0_4 r0_5 r0_6 r0_7 r1 w'
theorem sock_Table_Get.Call.mono {t sd} {w : World} {R R' : Int → Int → Int → Int → Int → Int → Int → Bool → Int → World → Prop} (h : sock_Table_Get.Call t sd w R) (hr : ∀ r0_0 r0_1 r0_2 r0_3 r0_4 r0_5 r0_6 r0_7 r1 w', R r0_0 r0_1 r0_2 r0_3 r0_4 r0_5 r0_6 r0_7 r1 w' → R' r0_0 r0_1 r0_2 r0_3 r0_4 r0_5 r0_6 r0_7 r1 w') : sock_Table_Get.Call t sd w R' :=
  Calls.mono h fun e w' he => by
    obtain ⟨r0_0, r0_1, r0_2, r0_3, r0_4, r0_5, r0_6, r0_7, r1, h1, h2⟩ := he
    exact ⟨r0_0, r0_1, r0_2, r0_3, r0_4, r0_5, r0_6, r0_7, r1, h1, hr r0_0 r0_1 r0_2 r0_3 r0_4 r0_5 r0_6 r0_7 r1 w' h2⟩
def sock_Table_Get.RV (R : Int → Int → Int → Int → Int → Int → Int → Bool → Int → World → Prop) (v : Value) (w : World) : Prop := match v with
  | .tuple ⟨[.agg ⟨[.int .i64 r0_0, .int .i64 r0_1, .int .i64 r0_2, .int .i64 r0_3, .int .i64 r0_4, .int .i64 r0_5, .int .i64 r0_6, .bool r0_7]⟩, .int .i64 r1]⟩ => R r0_0 r0_1 r0_2 r0_3 r0_4 r0_5 r0_6 r0_7 r1 w
  | _ => False
theorem sock_Table_Get.RV_elim {R : Int → Int → Int → Int → Int → Int → Int → Bool → Int → World → Prop} {v : Value} {w : World} (h : sock_Table_Get.RV R v w) : ∃ r0_0 r0_1 r0_2 r0_3 r0_4 r0_5 r0_6 r0_7 r1, Ending.returned v = .returned (.tuple #[.agg #[.int .i64 r0_0, .int .i64 r0_1, .int .i64 r0_2, .int .i64 r0_3, .int .i64 r0_4, .int .i64 r0_5, .int .i64 r0_6, .bool r0_7], .int .i64 r1]) ∧ R r0_0 r0_1 r0_2 r0_3 r0_4 r0_5 r0_6 r0_7 r1 w := by
  unfold sock_Table_Get.RV at h
  split at h
  · exact ⟨_, _, _, _, _, _, _, _, _, rfl, h⟩
  · exact h.elim
/-- e2e/socklaw.SameEntry -/
def socklaw_SameEntry.Call (a_0 a_1 a_2 a_3 a_4 a_5 a_6 : Int) (a_7 : Bool) (b_0 b_1 b_2 b_3 b_4 b_5 b_6 : Int) (b_7 : Bool) (w : World) (R : Bool → World → Prop) : Prop :=
  Calls Try.prog 36 #[.agg #[.int .i64 a_0, .int .i64 a_1, .int .i64 a_2, .int .i64 a_3, .int .i64 a_4, .int .i64 a_5, .int .i64 a_6, .bool a_7], .agg #[.int .i64 b_0, .int .i64 b_1, .int .i64 b_2, .int .i64 b_3, .int .i64 b_4, .int .i64 b_5, .int .i64 b_6, .bool b_7]] w fun e w' => ∃ r, e = .returned (.bool r) ∧ R r w'
theorem socklaw_SameEntry.Call.mono {a_0 a_1 a_2 a_3 a_4 a_5 a_6 a_7 b_0 b_1 b_2 b_3 b_4 b_5 b_6 b_7} {w : World} {R R' : Bool → World → Prop} (h : socklaw_SameEntry.Call a_0 a_1 a_2 a_3 a_4 a_5 a_6 a_7 b_0 b_1 b_2 b_3 b_4 b_5 b_6 b_7 w R) (hr : ∀ r w', R r w' → R' r w') : socklaw_SameEntry.Call a_0 a_1 a_2 a_3 a_4 a_5 a_6 a_7 b_0 b_1 b_2 b_3 b_4 b_5 b_6 b_7 w R' :=
  Calls.mono h fun e w' he => by
    obtain ⟨r, h1, h2⟩ := he
    exact ⟨r, h1, hr r w' h2⟩
def socklaw_SameEntry.RV (R : Bool → World → Prop) (v : Value) (w : World) : Prop := match v with
  | .bool r => R r w
  | _ => False
theorem socklaw_SameEntry.RV_elim {R : Bool → World → Prop} {v : Value} {w : World} (h : socklaw_SameEntry.RV R v w) : ∃ r, Ending.returned v = .returned (.bool r) ∧ R r w := by
  unfold socklaw_SameEntry.RV at h
  split at h
  · exact ⟨_, rfl, h⟩
  · exact h.elim
/-- (*e2e/sock.Table).rangesFine -/
def sock_Table_rangesFine.Call (t : Option Addr) (w : World) (R : Bool → World → Prop) : Prop :=
  Calls Try.prog 37 #[.pointer t] w fun e w' => ∃ r, e = .returned (.bool r) ∧ R r w'
theorem sock_Table_rangesFine.Call.mono {t} {w : World} {R R' : Bool → World → Prop} (h : sock_Table_rangesFine.Call t w R) (hr : ∀ r w', R r w' → R' r w') : sock_Table_rangesFine.Call t w R' :=
  Calls.mono h fun e w' he => by
    obtain ⟨r, h1, h2⟩ := he
    exact ⟨r, h1, hr r w' h2⟩
def sock_Table_rangesFine.RV (R : Bool → World → Prop) (v : Value) (w : World) : Prop := match v with
  | .bool r => R r w
  | _ => False
theorem sock_Table_rangesFine.RV_elim {R : Bool → World → Prop} {v : Value} {w : World} (h : sock_Table_rangesFine.RV R v w) : ∃ r, Ending.returned v = .returned (.bool r) ∧ R r w := by
  unfold sock_Table_rangesFine.RV at h
  split at h
  · exact ⟨_, rfl, h⟩
  · exact h.elim
/-- (*e2e/sock.Table).freeFine -/
def sock_Table_freeFine.Call (t : Option Addr) (w : World) (R : Bool → World → Prop) : Prop :=
  Calls Try.prog 38 #[.pointer t] w fun e w' => ∃ r, e = .returned (.bool r) ∧ R r w'
theorem sock_Table_freeFine.Call.mono {t} {w : World} {R R' : Bool → World → Prop} (h : sock_Table_freeFine.Call t w R) (hr : ∀ r w', R r w' → R' r w') : sock_Table_freeFine.Call t w R' :=
  Calls.mono h fun e w' he => by
    obtain ⟨r, h1, h2⟩ := he
    exact ⟨r, h1, hr r w' h2⟩
def sock_Table_freeFine.RV (R : Bool → World → Prop) (v : Value) (w : World) : Prop := match v with
  | .bool r => R r w
  | _ => False
theorem sock_Table_freeFine.RV_elim {R : Bool → World → Prop} {v : Value} {w : World} (h : sock_Table_freeFine.RV R v w) : ∃ r, Ending.returned v = .returned (.bool r) ∧ R r w := by
  unfold sock_Table_freeFine.RV at h
  split at h
  · exact ⟨_, rfl, h⟩
  · exact h.elim
/-- (*e2e/sock.Table).chainsFine -/
def sock_Table_chainsFine.Call (t : Option Addr) (w : World) (R : Bool → World → Prop) : Prop :=
  Calls Try.prog 39 #[.pointer t] w fun e w' => ∃ r, e = .returned (.bool r) ∧ R r w'
theorem sock_Table_chainsFine.Call.mono {t} {w : World} {R R' : Bool → World → Prop} (h : sock_Table_chainsFine.Call t w R) (hr : ∀ r w', R r w' → R' r w') : sock_Table_chainsFine.Call t w R' :=
  Calls.mono h fun e w' he => by
    obtain ⟨r, h1, h2⟩ := he
    exact ⟨r, h1, hr r w' h2⟩
def sock_Table_chainsFine.RV (R : Bool → World → Prop) (v : Value) (w : World) : Prop := match v with
  | .bool r => R r w
  | _ => False
theorem sock_Table_chainsFine.RV_elim {R : Bool → World → Prop} {v : Value} {w : World} (h : sock_Table_chainsFine.RV R v w) : ∃ r, Ending.returned v = .returned (.bool r) ∧ R r w := by
  unfold sock_Table_chainsFine.RV at h
  split at h
  · exact ⟨_, rfl, h⟩
  · exact h.elim
/-- (*e2e/sock.Table).portsFine -/
def sock_Table_portsFine.Call (t : Option Addr) (w : World) (R : Bool → World → Prop) : Prop :=
  Calls Try.prog 40 #[.pointer t] w fun e w' => ∃ r, e = .returned (.bool r) ∧ R r w'
theorem sock_Table_portsFine.Call.mono {t} {w : World} {R R' : Bool → World → Prop} (h : sock_Table_portsFine.Call t w R) (hr : ∀ r w', R r w' → R' r w') : sock_Table_portsFine.Call t w R' :=
  Calls.mono h fun e w' he => by
    obtain ⟨r, h1, h2⟩ := he
    exact ⟨r, h1, hr r w' h2⟩
def sock_Table_portsFine.RV (R : Bool → World → Prop) (v : Value) (w : World) : Prop := match v with
  | .bool r => R r w
  | _ => False
theorem sock_Table_portsFine.RV_elim {R : Bool → World → Prop} {v : Value} {w : World} (h : sock_Table_portsFine.RV R v w) : ∃ r, Ending.returned v = .returned (.bool r) ∧ R r w := by
  unfold sock_Table_portsFine.RV at h
  split at h
  · exact ⟨_, rfl, h⟩
  · exact h.elim
/-- (*e2e/sock.Table).rowFine -/
def sock_Table_rowFine.Call (t : Option Addr) (i : Int) (w : World) (R : Bool → World → Prop) : Prop :=
  Calls Try.prog 41 #[.pointer t, .int .i64 i] w fun e w' => ∃ r, e = .returned (.bool r) ∧ R r w'
theorem sock_Table_rowFine.Call.mono {t i} {w : World} {R R' : Bool → World → Prop} (h : sock_Table_rowFine.Call t i w R) (hr : ∀ r w', R r w' → R' r w') : sock_Table_rowFine.Call t i w R' :=
  Calls.mono h fun e w' he => by
    obtain ⟨r, h1, h2⟩ := he
    exact ⟨r, h1, hr r w' h2⟩
def sock_Table_rowFine.RV (R : Bool → World → Prop) (v : Value) (w : World) : Prop := match v with
  | .bool r => R r w
  | _ => False
theorem sock_Table_rowFine.RV_elim {R : Bool → World → Prop} {v : Value} {w : World} (h : sock_Table_rowFine.RV R v w) : ∃ r, Ending.returned v = .returned (.bool r) ∧ R r w := by
  unfold sock_Table_rowFine.RV at h
  split at h
  · exact ⟨_, rfl, h⟩
  · exact h.elim
/-- (*e2e/sock.Table).Listen -/
def sock_Table_Listen.Call (t : Option Addr) (port : Int) (w : World) (R : Int → Int → World → Prop) : Prop :=
  Calls Try.prog 42 #[.pointer t, .int .i64 port] w fun e w' => ∃ r0 r1, e = .returned (.tuple #[.int .i64 r0, .int .i64 r1]) ∧ R r0 r1 w'
theorem sock_Table_Listen.Call.mono {t port} {w : World} {R R' : Int → Int → World → Prop} (h : sock_Table_Listen.Call t port w R) (hr : ∀ r0 r1 w', R r0 r1 w' → R' r0 r1 w') : sock_Table_Listen.Call t port w R' :=
  Calls.mono h fun e w' he => by
    obtain ⟨r0, r1, h1, h2⟩ := he
    exact ⟨r0, r1, h1, hr r0 r1 w' h2⟩
def sock_Table_Listen.RV (R : Int → Int → World → Prop) (v : Value) (w : World) : Prop := match v with
  | .tuple ⟨[.int .i64 r0, .int .i64 r1]⟩ => R r0 r1 w
  | _ => False
theorem sock_Table_Listen.RV_elim {R : Int → Int → World → Prop} {v : Value} {w : World} (h : sock_Table_Listen.RV R v w) : ∃ r0 r1, Ending.returned v = .returned (.tuple #[.int .i64 r0, .int .i64 r1]) ∧ R r0 r1 w := by
  unfold sock_Table_Listen.RV at h
  split at h
  · exact ⟨_, _, rfl, h⟩
  · exact h.elim
/-- (*e2e/sockm.Table).Listen -/
def sockm_Table_Listen.Call (t : Option Addr) (port : Int) (w : World) (R : Int → Int → World → Prop) : Prop :=
  Calls Try.prog 43 #[.pointer t, .int .i64 port] w fun e w' => ∃ r0 r1, e = .returned (.tuple #[.int .i64 r0, .int .i64 r1]) ∧ R r0 r1 w'
theorem sockm_Table_Listen.Call.mono {t port} {w : World} {R R' : Int → Int → World → Prop} (h : sockm_Table_Listen.Call t port w R) (hr : ∀ r0 r1 w', R r0 r1 w' → R' r0 r1 w') : sockm_Table_Listen.Call t port w R' :=
  Calls.mono h fun e w' he => by
    obtain ⟨r0, r1, h1, h2⟩ := he
    exact ⟨r0, r1, h1, hr r0 r1 w' h2⟩
def sockm_Table_Listen.RV (R : Int → Int → World → Prop) (v : Value) (w : World) : Prop := match v with
  | .tuple ⟨[.int .i64 r0, .int .i64 r1]⟩ => R r0 r1 w
  | _ => False
theorem sockm_Table_Listen.RV_elim {R : Int → Int → World → Prop} {v : Value} {w : World} (h : sockm_Table_Listen.RV R v w) : ∃ r0 r1, Ending.returned v = .returned (.tuple #[.int .i64 r0, .int .i64 r1]) ∧ R r0 r1 w := by
  unfold sockm_Table_Listen.RV at h
  split at h
  · exact ⟨_, _, rfl, h⟩
  · exact h.elim
/-- (*e2e/sock.Table).Connect -/
def sock_Table_Connect.Call (t : Option Addr) (rhost rport : Int) (w : World) (R : Int → Int → World → Prop) : Prop :=
  Calls Try.prog 44 #[.pointer t, .int .i64 rhost, .int .i64 rport] w fun e w' => ∃ r0 r1, e = .returned (.tuple #[.int .i64 r0, .int .i64 r1]) ∧ R r0 r1 w'
theorem sock_Table_Connect.Call.mono {t rhost rport} {w : World} {R R' : Int → Int → World → Prop} (h : sock_Table_Connect.Call t rhost rport w R) (hr : ∀ r0 r1 w', R r0 r1 w' → R' r0 r1 w') : sock_Table_Connect.Call t rhost rport w R' :=
  Calls.mono h fun e w' he => by
    obtain ⟨r0, r1, h1, h2⟩ := he
    exact ⟨r0, r1, h1, hr r0 r1 w' h2⟩
def sock_Table_Connect.RV (R : Int → Int → World → Prop) (v : Value) (w : World) : Prop := match v with
  | .tuple ⟨[.int .i64 r0, .int .i64 r1]⟩ => R r0 r1 w
  | _ => False
theorem sock_Table_Connect.RV_elim {R : Int → Int → World → Prop} {v : Value} {w : World} (h : sock_Table_Connect.RV R v w) : ∃ r0 r1, Ending.returned v = .returned (.tuple #[.int .i64 r0, .int .i64 r1]) ∧ R r0 r1 w := by
  unfold sock_Table_Connect.RV at h
  split at h
  · exact ⟨_, _, rfl, h⟩
  · exact h.elim
/-- (*e2e/sockm.Table).Connect -/
def sockm_Table_Connect.Call (t : Option Addr) (rhost rport : Int) (w : World) (R : Int → Int → World → Prop) : Prop :=
  Calls Try.prog 45 #[.pointer t, .int .i64 rhost, .int .i64 rport] w fun e w' => ∃ r0 r1, e = .returned (.tuple #[.int .i64 r0, .int .i64 r1]) ∧ R r0 r1 w'
theorem sockm_Table_Connect.Call.mono {t rhost rport} {w : World} {R R' : Int → Int → World → Prop} (h : sockm_Table_Connect.Call t rhost rport w R) (hr : ∀ r0 r1 w', R r0 r1 w' → R' r0 r1 w') : sockm_Table_Connect.Call t rhost rport w R' :=
  Calls.mono h fun e w' he => by
    obtain ⟨r0, r1, h1, h2⟩ := he
    exact ⟨r0, r1, h1, hr r0 r1 w' h2⟩
def sockm_Table_Connect.RV (R : Int → Int → World → Prop) (v : Value) (w : World) : Prop := match v with
  | .tuple ⟨[.int .i64 r0, .int .i64 r1]⟩ => R r0 r1 w
  | _ => False
theorem sockm_Table_Connect.RV_elim {R : Int → Int → World → Prop} {v : Value} {w : World} (h : sockm_Table_Connect.RV R v w) : ∃ r0 r1, Ending.returned v = .returned (.tuple #[.int .i64 r0, .int .i64 r1]) ∧ R r0 r1 w := by
  unfold sockm_Table_Connect.RV at h
  split at h
  · exact ⟨_, _, rfl, h⟩
  · exact h.elim
/-- (*e2e/sock.Table).Child -/
def sock_Table_Child.Call (t : Option Addr) (lport rhost rport : Int) (w : World) (R : Int → Int → World → Prop) : Prop :=
  Calls Try.prog 46 #[.pointer t, .int .i64 lport, .int .i64 rhost, .int .i64 rport] w fun e w' => ∃ r0 r1, e = .returned (.tuple #[.int .i64 r0, .int .i64 r1]) ∧ R r0 r1 w'
theorem sock_Table_Child.Call.mono {t lport rhost rport} {w : World} {R R' : Int → Int → World → Prop} (h : sock_Table_Child.Call t lport rhost rport w R) (hr : ∀ r0 r1 w', R r0 r1 w' → R' r0 r1 w') : sock_Table_Child.Call t lport rhost rport w R' :=
  Calls.mono h fun e w' he => by
    obtain ⟨r0, r1, h1, h2⟩ := he
    exact ⟨r0, r1, h1, hr r0 r1 w' h2⟩
def sock_Table_Child.RV (R : Int → Int → World → Prop) (v : Value) (w : World) : Prop := match v with
  | .tuple ⟨[.int .i64 r0, .int .i64 r1]⟩ => R r0 r1 w
  | _ => False
theorem sock_Table_Child.RV_elim {R : Int → Int → World → Prop} {v : Value} {w : World} (h : sock_Table_Child.RV R v w) : ∃ r0 r1, Ending.returned v = .returned (.tuple #[.int .i64 r0, .int .i64 r1]) ∧ R r0 r1 w := by
  unfold sock_Table_Child.RV at h
  split at h
  · exact ⟨_, _, rfl, h⟩
  · exact h.elim
/-- (*e2e/sockm.Table).Child -/
def sockm_Table_Child.Call (t : Option Addr) (lport rhost rport : Int) (w : World) (R : Int → Int → World → Prop) : Prop :=
  Calls Try.prog 47 #[.pointer t, .int .i64 lport, .int .i64 rhost, .int .i64 rport] w fun e w' => ∃ r0 r1, e = .returned (.tuple #[.int .i64 r0, .int .i64 r1]) ∧ R r0 r1 w'
theorem sockm_Table_Child.Call.mono {t lport rhost rport} {w : World} {R R' : Int → Int → World → Prop} (h : sockm_Table_Child.Call t lport rhost rport w R) (hr : ∀ r0 r1 w', R r0 r1 w' → R' r0 r1 w') : sockm_Table_Child.Call t lport rhost rport w R' :=
  Calls.mono h fun e w' he => by
    obtain ⟨r0, r1, h1, h2⟩ := he
    exact ⟨r0, r1, h1, hr r0 r1 w' h2⟩
def sockm_Table_Child.RV (R : Int → Int → World → Prop) (v : Value) (w : World) : Prop := match v with
  | .tuple ⟨[.int .i64 r0, .int .i64 r1]⟩ => R r0 r1 w
  | _ => False
theorem sockm_Table_Child.RV_elim {R : Int → Int → World → Prop} {v : Value} {w : World} (h : sockm_Table_Child.RV R v w) : ∃ r0 r1, Ending.returned v = .returned (.tuple #[.int .i64 r0, .int .i64 r1]) ∧ R r0 r1 w := by
  unfold sockm_Table_Child.RV at h
  split at h
  · exact ⟨_, _, rfl, h⟩
  · exact h.elim
/-- (*e2e/sock.Table).Ready -/
def sock_Table_Ready.Call (t : Option Addr) (sd : Int) (w : World) (R : Int → World → Prop) : Prop :=
  Calls Try.prog 48 #[.pointer t, .int .i64 sd] w fun e w' => ∃ r, e = .returned (.int .i64 r) ∧ R r w'
theorem sock_Table_Ready.Call.mono {t sd} {w : World} {R R' : Int → World → Prop} (h : sock_Table_Ready.Call t sd w R) (hr : ∀ r w', R r w' → R' r w') : sock_Table_Ready.Call t sd w R' :=
  Calls.mono h fun e w' he => by
    obtain ⟨r, h1, h2⟩ := he
    exact ⟨r, h1, hr r w' h2⟩
def sock_Table_Ready.RV (R : Int → World → Prop) (v : Value) (w : World) : Prop := match v with
  | .int .i64 r => R r w
  | _ => False
theorem sock_Table_Ready.RV_elim {R : Int → World → Prop} {v : Value} {w : World} (h : sock_Table_Ready.RV R v w) : ∃ r, Ending.returned v = .returned (.int .i64 r) ∧ R r w := by
  unfold sock_Table_Ready.RV at h
  split at h
  · exact ⟨_, rfl, h⟩
  · exact h.elim
/-- (*e2e/sockm.Table).Ready -/
def sockm_Table_Ready.Call (t : Option Addr) (sd : Int) (w : World) (R : Int → World → Prop) : Prop :=
  Calls Try.prog 49 #[.pointer t, .int .i64 sd] w fun e w' => ∃ r, e = .returned (.int .i64 r) ∧ R r w'
theorem sockm_Table_Ready.Call.mono {t sd} {w : World} {R R' : Int → World → Prop} (h : sockm_Table_Ready.Call t sd w R) (hr : ∀ r w', R r w' → R' r w') : sockm_Table_Ready.Call t sd w R' :=
  Calls.mono h fun e w' he => by
    obtain ⟨r, h1, h2⟩ := he
    exact ⟨r, h1, hr r w' h2⟩
def sockm_Table_Ready.RV (R : Int → World → Prop) (v : Value) (w : World) : Prop := match v with
  | .int .i64 r => R r w
  | _ => False
theorem sockm_Table_Ready.RV_elim {R : Int → World → Prop} {v : Value} {w : World} (h : sockm_Table_Ready.RV R v w) : ∃ r, Ending.returned v = .returned (.int .i64 r) ∧ R r w := by
  unfold sockm_Table_Ready.RV at h
  split at h
  · exact ⟨_, rfl, h⟩
  · exact h.elim
/-- (*e2e/sock.Table).Accept -/
def sock_Table_Accept.Call (t : Option Addr) (lsd : Int) (w : World) (R : Int → Int → World → Prop) : Prop :=
  Calls Try.prog 50 #[.pointer t, .int .i64 lsd] w fun e w' => ∃ r0 r1, e = .returned (.tuple #[.int .i64 r0, .int .i64 r1]) ∧ R r0 r1 w'
theorem sock_Table_Accept.Call.mono {t lsd} {w : World} {R R' : Int → Int → World → Prop} (h : sock_Table_Accept.Call t lsd w R) (hr : ∀ r0 r1 w', R r0 r1 w' → R' r0 r1 w') : sock_Table_Accept.Call t lsd w R' :=
  Calls.mono h fun e w' he => by
    obtain ⟨r0, r1, h1, h2⟩ := he
    exact ⟨r0, r1, h1, hr r0 r1 w' h2⟩
def sock_Table_Accept.RV (R : Int → Int → World → Prop) (v : Value) (w : World) : Prop := match v with
  | .tuple ⟨[.int .i64 r0, .int .i64 r1]⟩ => R r0 r1 w
  | _ => False
theorem sock_Table_Accept.RV_elim {R : Int → Int → World → Prop} {v : Value} {w : World} (h : sock_Table_Accept.RV R v w) : ∃ r0 r1, Ending.returned v = .returned (.tuple #[.int .i64 r0, .int .i64 r1]) ∧ R r0 r1 w := by
  unfold sock_Table_Accept.RV at h
  split at h
  · exact ⟨_, _, rfl, h⟩
  · exact h.elim
/-- (*e2e/sockm.Table).Accept -/
def sockm_Table_Accept.Call (t : Option Addr) (lsd : Int) (w : World) (R : Int → Int → World → Prop) : Prop :=
  Calls Try.prog 51 #[.pointer t, .int .i64 lsd] w fun e w' => ∃ r0 r1, e = .returned (.tuple #[.int .i64 r0, .int .i64 r1]) ∧ R r0 r1 w'
theorem sockm_Table_Accept.Call.mono {t lsd} {w : World} {R R' : Int → Int → World → Prop} (h : sockm_Table_Accept.Call t lsd w R) (hr : ∀ r0 r1 w', R r0 r1 w' → R' r0 r1 w') : sockm_Table_Accept.Call t lsd w R' :=
  Calls.mono h fun e w' he => by
    obtain ⟨r0, r1, h1, h2⟩ := he
    exact ⟨r0, r1, h1, hr r0 r1 w' h2⟩
def sockm_Table_Accept.RV (R : Int → Int → World → Prop) (v : Value) (w : World) : Prop := match v with
  | .tuple ⟨[.int .i64 r0, .int .i64 r1]⟩ => R r0 r1 w
  | _ => False
theorem sockm_Table_Accept.RV_elim {R : Int → Int → World → Prop} {v : Value} {w : World} (h : sockm_Table_Accept.RV R v w) : ∃ r0 r1, Ending.returned v = .returned (.tuple #[.int .i64 r0, .int .i64 r1]) ∧ R r0 r1 w := by
  unfold sockm_Table_Accept.RV at h
  split at h
  · exact ⟨_, _, rfl, h⟩
  · exact h.elim
/-- (*e2e/sock.Table).Free -/
def sock_Table_Free.Call (t : Option Addr) (sd : Int) (w : World) (R : Int → World → Prop) : Prop :=
  Calls Try.prog 52 #[.pointer t, .int .i64 sd] w fun e w' => ∃ r, e = .returned (.int .i64 r) ∧ R r w'
theorem sock_Table_Free.Call.mono {t sd} {w : World} {R R' : Int → World → Prop} (h : sock_Table_Free.Call t sd w R) (hr : ∀ r w', R r w' → R' r w') : sock_Table_Free.Call t sd w R' :=
  Calls.mono h fun e w' he => by
    obtain ⟨r, h1, h2⟩ := he
    exact ⟨r, h1, hr r w' h2⟩
def sock_Table_Free.RV (R : Int → World → Prop) (v : Value) (w : World) : Prop := match v with
  | .int .i64 r => R r w
  | _ => False
theorem sock_Table_Free.RV_elim {R : Int → World → Prop} {v : Value} {w : World} (h : sock_Table_Free.RV R v w) : ∃ r, Ending.returned v = .returned (.int .i64 r) ∧ R r w := by
  unfold sock_Table_Free.RV at h
  split at h
  · exact ⟨_, rfl, h⟩
  · exact h.elim
/-- (*e2e/sockm.Table).Free -/
def sockm_Table_Free.Call (t : Option Addr) (sd : Int) (w : World) (R : Int → World → Prop) : Prop :=
  Calls Try.prog 53 #[.pointer t, .int .i64 sd] w fun e w' => ∃ r, e = .returned (.int .i64 r) ∧ R r w'
theorem sockm_Table_Free.Call.mono {t sd} {w : World} {R R' : Int → World → Prop} (h : sockm_Table_Free.Call t sd w R) (hr : ∀ r w', R r w' → R' r w') : sockm_Table_Free.Call t sd w R' :=
  Calls.mono h fun e w' he => by
    obtain ⟨r, h1, h2⟩ := he
    exact ⟨r, h1, hr r w' h2⟩
def sockm_Table_Free.RV (R : Int → World → Prop) (v : Value) (w : World) : Prop := match v with
  | .int .i64 r => R r w
  | _ => False
theorem sockm_Table_Free.RV_elim {R : Int → World → Prop} {v : Value} {w : World} (h : sockm_Table_Free.RV R v w) : ∃ r, Ending.returned v = .returned (.int .i64 r) ∧ R r w := by
  unfold sockm_Table_Free.RV at h
  split at h
  · exact ⟨_, rfl, h⟩
  · exact h.elim
/-- (*e2e/sockm.Table).Lookup -/
def sockm_Table_Lookup.Call (t : Option Addr) (lport rhost rport : Int) (w : World) (R : Int → World → Prop) : Prop :=
  Calls Try.prog 54 #[.pointer t, .int .i64 lport, .int .i64 rhost, .int .i64 rport] w fun e w' => ∃ r, e = .returned (.int .i64 r) ∧ R r w'
theorem sockm_Table_Lookup.Call.mono {t lport rhost rport} {w : World} {R R' : Int → World → Prop} (h : sockm_Table_Lookup.Call t lport rhost rport w R) (hr : ∀ r w', R r w' → R' r w') : sockm_Table_Lookup.Call t lport rhost rport w R' :=
  Calls.mono h fun e w' he => by
    obtain ⟨r, h1, h2⟩ := he
    exact ⟨r, h1, hr r w' h2⟩
def sockm_Table_Lookup.RV (R : Int → World → Prop) (v : Value) (w : World) : Prop := match v with
  | .int .i64 r => R r w
  | _ => False
theorem sockm_Table_Lookup.RV_elim {R : Int → World → Prop} {v : Value} {w : World} (h : sockm_Table_Lookup.RV R v w) : ∃ r, Ending.returned v = .returned (.int .i64 r) ∧ R r w := by
  unfold sockm_Table_Lookup.RV at h
  split at h
  · exact ⟨_, rfl, h⟩
  · exact h.elim
/-- (*e2e/sock.Table).Queue -/
def sock_Table_Queue.Call (t : Option Addr) (lsd : Int) (w : World) (R : Option Addr → Nat → Nat → World → Prop) : Prop :=
  Calls Try.prog 55 #[.pointer t, .int .i64 lsd] w fun e w' => ∃ r_b r_l r_c, e = .returned (.slice r_b r_l r_c) ∧ R r_b r_l r_c w'
theorem sock_Table_Queue.Call.mono {t lsd} {w : World} {R R' : Option Addr → Nat → Nat → World → Prop} (h : sock_Table_Queue.Call t lsd w R) (hr : ∀ r_b r_l r_c w', R r_b r_l r_c w' → R' r_b r_l r_c w') : sock_Table_Queue.Call t lsd w R' :=
  Calls.mono h fun e w' he => by
    obtain ⟨r_b, r_l, r_c, h1, h2⟩ := he
    exact ⟨r_b, r_l, r_c, h1, hr r_b r_l r_c w' h2⟩
def sock_Table_Queue.RV (R : Option Addr → Nat → Nat → World → Prop) (v : Value) (w : World) : Prop := match v with
  | .slice r_b r_l r_c => R r_b r_l r_c w
  | _ => False
theorem sock_Table_Queue.RV_elim {R : Option Addr → Nat → Nat → World → Prop} {v : Value} {w : World} (h : sock_Table_Queue.RV R v w) : ∃ r_b r_l r_c, Ending.returned v = .returned (.slice r_b r_l r_c) ∧ R r_b r_l r_c w := by
  unfold sock_Table_Queue.RV at h
  split at h
  · exact ⟨_, _, _, rfl, h⟩
  · exact h.elim
/-- (*e2e/sockm.Table).Queue -/
def sockm_Table_Queue.Call (t : Option Addr) (lsd : Int) (w : World) (R : Option Addr → Nat → Nat → World → Prop) : Prop :=
  Calls Try.prog 56 #[.pointer t, .int .i64 lsd] w fun e w' => ∃ r_b r_l r_c, e = .returned (.slice r_b r_l r_c) ∧ R r_b r_l r_c w'
theorem sockm_Table_Queue.Call.mono {t lsd} {w : World} {R R' : Option Addr → Nat → Nat → World → Prop} (h : sockm_Table_Queue.Call t lsd w R) (hr : ∀ r_b r_l r_c w', R r_b r_l r_c w' → R' r_b r_l r_c w') : sockm_Table_Queue.Call t lsd w R' :=
  Calls.mono h fun e w' he => by
    obtain ⟨r_b, r_l, r_c, h1, h2⟩ := he
    exact ⟨r_b, r_l, r_c, h1, hr r_b r_l r_c w' h2⟩
def sockm_Table_Queue.RV (R : Option Addr → Nat → Nat → World → Prop) (v : Value) (w : World) : Prop := match v with
  | .slice r_b r_l r_c => R r_b r_l r_c w
  | _ => False
theorem sockm_Table_Queue.RV_elim {R : Option Addr → Nat → Nat → World → Prop} {v : Value} {w : World} (h : sockm_Table_Queue.RV R v w) : ∃ r_b r_l r_c, Ending.returned v = .returned (.slice r_b r_l r_c) ∧ R r_b r_l r_c w := by
  unfold sockm_Table_Queue.RV at h
  split at h
  · exact ⟨_, _, _, rfl, h⟩
  · exact h.elim
/-- (*e2e/sockm.Table).at -/
def sockm_Table_at.Call (t : Option Addr) (sd : Int) (w : World) (R : Int → World → Prop) : Prop :=
  Calls Try.prog 57 #[.pointer t, .int .i64 sd] w fun e w' => ∃ r, e = .returned (.int .i64 r) ∧ R r w'
theorem sockm_Table_at.Call.mono {t sd} {w : World} {R R' : Int → World → Prop} (h : sockm_Table_at.Call t sd w R) (hr : ∀ r w', R r w' → R' r w') : sockm_Table_at.Call t sd w R' :=
  Calls.mono h fun e w' he => by
    obtain ⟨r, h1, h2⟩ := he
    exact ⟨r, h1, hr r w' h2⟩
def sockm_Table_at.RV (R : Int → World → Prop) (v : Value) (w : World) : Prop := match v with
  | .int .i64 r => R r w
  | _ => False
theorem sockm_Table_at.RV_elim {R : Int → World → Prop} {v : Value} {w : World} (h : sockm_Table_at.RV R v w) : ∃ r, Ending.returned v = .returned (.int .i64 r) ∧ R r w := by
  unfold sockm_Table_at.RV at h
  split at h
  · exact ⟨_, rfl, h⟩
  · exact h.elim
/-- e2e/sock.hash -/
def sock_hash.Call (lport rhost rport : Int) (w : World) (R : Int → World → Prop) : Prop :=
  Calls Try.prog 58 #[.int .i64 lport, .int .i64 rhost, .int .i64 rport] w fun e w' => ∃ r, e = .returned (.int .i64 r) ∧ R r w'
theorem sock_hash.Call.mono {lport rhost rport} {w : World} {R R' : Int → World → Prop} (h : sock_hash.Call lport rhost rport w R) (hr : ∀ r w', R r w' → R' r w') : sock_hash.Call lport rhost rport w R' :=
  Calls.mono h fun e w' he => by
    obtain ⟨r, h1, h2⟩ := he
    exact ⟨r, h1, hr r w' h2⟩
def sock_hash.RV (R : Int → World → Prop) (v : Value) (w : World) : Prop := match v with
  | .int .i64 r => R r w
  | _ => False
theorem sock_hash.RV_elim {R : Int → World → Prop} {v : Value} {w : World} (h : sock_hash.RV R v w) : ∃ r, Ending.returned v = .returned (.int .i64 r) ∧ R r w := by
  unfold sock_hash.RV at h
  split at h
  · exact ⟨_, rfl, h⟩
  · exact h.elim
/-- (*e2e/sock.Table).listenerRow -/
def sock_Table_listenerRow.Call (t : Option Addr) (lport : Int) (w : World) (R : Int → World → Prop) : Prop :=
  Calls Try.prog 59 #[.pointer t, .int .i64 lport] w fun e w' => ∃ r, e = .returned (.int .i64 r) ∧ R r w'
theorem sock_Table_listenerRow.Call.mono {t lport} {w : World} {R R' : Int → World → Prop} (h : sock_Table_listenerRow.Call t lport w R) (hr : ∀ r w', R r w' → R' r w') : sock_Table_listenerRow.Call t lport w R' :=
  Calls.mono h fun e w' he => by
    obtain ⟨r, h1, h2⟩ := he
    exact ⟨r, h1, hr r w' h2⟩
def sock_Table_listenerRow.RV (R : Int → World → Prop) (v : Value) (w : World) : Prop := match v with
  | .int .i64 r => R r w
  | _ => False
theorem sock_Table_listenerRow.RV_elim {R : Int → World → Prop} {v : Value} {w : World} (h : sock_Table_listenerRow.RV R v w) : ∃ r, Ending.returned v = .returned (.int .i64 r) ∧ R r w := by
  unfold sock_Table_listenerRow.RV at h
  split at h
  · exact ⟨_, rfl, h⟩
  · exact h.elim
/-- (*e2e/sock.Table).find -/
def sock_Table_find.Call (t : Option Addr) (sd : Int) (w : World) (R : Int → World → Prop) : Prop :=
  Calls Try.prog 60 #[.pointer t, .int .i64 sd] w fun e w' => ∃ r, e = .returned (.int .i64 r) ∧ R r w'
theorem sock_Table_find.Call.mono {t sd} {w : World} {R R' : Int → World → Prop} (h : sock_Table_find.Call t sd w R) (hr : ∀ r w', R r w' → R' r w') : sock_Table_find.Call t sd w R' :=
  Calls.mono h fun e w' he => by
    obtain ⟨r, h1, h2⟩ := he
    exact ⟨r, h1, hr r w' h2⟩
def sock_Table_find.RV (R : Int → World → Prop) (v : Value) (w : World) : Prop := match v with
  | .int .i64 r => R r w
  | _ => False
theorem sock_Table_find.RV_elim {R : Int → World → Prop} {v : Value} {w : World} (h : sock_Table_find.RV R v w) : ∃ r, Ending.returned v = .returned (.int .i64 r) ∧ R r w := by
  unfold sock_Table_find.RV at h
  split at h
  · exact ⟨_, rfl, h⟩
  · exact h.elim
/-- e2e/sock.index -/
def sock_index.Call (i : Int) (w : World) (R : Bool → World → Prop) : Prop :=
  Calls Try.prog 61 #[.int .i64 i] w fun e w' => ∃ r, e = .returned (.bool r) ∧ R r w'
theorem sock_index.Call.mono {i} {w : World} {R R' : Bool → World → Prop} (h : sock_index.Call i w R) (hr : ∀ r w', R r w' → R' r w') : sock_index.Call i w R' :=
  Calls.mono h fun e w' he => by
    obtain ⟨r, h1, h2⟩ := he
    exact ⟨r, h1, hr r w' h2⟩
def sock_index.RV (R : Bool → World → Prop) (v : Value) (w : World) : Prop := match v with
  | .bool r => R r w
  | _ => False
theorem sock_index.RV_elim {R : Bool → World → Prop} {v : Value} {w : World} (h : sock_index.RV R v w) : ∃ r, Ending.returned v = .returned (.bool r) ∧ R r w := by
  unfold sock_index.RV at h
  split at h
  · exact ⟨_, rfl, h⟩
  · exact h.elim
/-- e2e/sock.bitOf -/
def sock_bitOf.Call (s : Int) (w : World) (R : Int → World → Prop) : Prop :=
  Calls Try.prog 62 #[.int .i64 s] w fun e w' => ∃ r, e = .returned (.int .u8 r) ∧ R r w'
theorem sock_bitOf.Call.mono {s} {w : World} {R R' : Int → World → Prop} (h : sock_bitOf.Call s w R) (hr : ∀ r w', R r w' → R' r w') : sock_bitOf.Call s w R' :=
  Calls.mono h fun e w' he => by
    obtain ⟨r, h1, h2⟩ := he
    exact ⟨r, h1, hr r w' h2⟩
def sock_bitOf.RV (R : Int → World → Prop) (v : Value) (w : World) : Prop := match v with
  | .int .u8 r => R r w
  | _ => False
theorem sock_bitOf.RV_elim {R : Int → World → Prop} {v : Value} {w : World} (h : sock_bitOf.RV R v w) : ∃ r, Ending.returned v = .returned (.int .u8 r) ∧ R r w := by
  unfold sock_bitOf.RV at h
  split at h
  · exact ⟨_, rfl, h⟩
  · exact h.elim
/-- (*e2e/sock.Table).listenerFine -/
def sock_Table_listenerFine.Call (t : Option Addr) (r_0 : Bool) (r_1 r_2 r_3 r_4 r_5 r_6 r_7 : Int) (r_8 : Bool) (r_9 r_10 r_11 r_12 r_13 r_14 : Int) (w : World) (R : Bool → World → Prop) : Prop :=
  Calls Try.prog 63 #[.pointer t, .agg #[.bool r_0, .int .i64 r_1, .int .i64 r_2, .int .i64 r_3, .int .i64 r_4, .int .i64 r_5, .int .i64 r_6, .int .i64 r_7, .bool r_8, .int .i64 r_9, .int .i64 r_10, .int .i64 r_11, .int .i64 r_12, .int .i64 r_13, .int .i64 r_14]] w fun e w' => ∃ r, e = .returned (.bool r) ∧ R r w'
theorem sock_Table_listenerFine.Call.mono {t r_0 r_1 r_2 r_3 r_4 r_5 r_6 r_7 r_8 r_9 r_10 r_11 r_12 r_13 r_14} {w : World} {R R' : Bool → World → Prop} (h : sock_Table_listenerFine.Call t r_0 r_1 r_2 r_3 r_4 r_5 r_6 r_7 r_8 r_9 r_10 r_11 r_12 r_13 r_14 w R) (hr : ∀ r w', R r w' → R' r w') : sock_Table_listenerFine.Call t r_0 r_1 r_2 r_3 r_4 r_5 r_6 r_7 r_8 r_9 r_10 r_11 r_12 r_13 r_14 w R' :=
  Calls.mono h fun e w' he => by
    obtain ⟨r, h1, h2⟩ := he
    exact ⟨r, h1, hr r w' h2⟩
def sock_Table_listenerFine.RV (R : Bool → World → Prop) (v : Value) (w : World) : Prop := match v with
  | .bool r => R r w
  | _ => False
theorem sock_Table_listenerFine.RV_elim {R : Bool → World → Prop} {v : Value} {w : World} (h : sock_Table_listenerFine.RV R v w) : ∃ r, Ending.returned v = .returned (.bool r) ∧ R r w := by
  unfold sock_Table_listenerFine.RV at h
  split at h
  · exact ⟨_, rfl, h⟩
  · exact h.elim
/-- (*e2e/sock.Table).connFine -/
def sock_Table_connFine.Call (t : Option Addr) (r_0 : Bool) (r_1 r_2 r_3 r_4 r_5 r_6 r_7 : Int) (r_8 : Bool) (r_9 r_10 r_11 r_12 r_13 r_14 : Int) (w : World) (R : Bool → World → Prop) : Prop :=
  Calls Try.prog 64 #[.pointer t, .agg #[.bool r_0, .int .i64 r_1, .int .i64 r_2, .int .i64 r_3, .int .i64 r_4, .int .i64 r_5, .int .i64 r_6, .int .i64 r_7, .bool r_8, .int .i64 r_9, .int .i64 r_10, .int .i64 r_11, .int .i64 r_12, .int .i64 r_13, .int .i64 r_14]] w fun e w' => ∃ r, e = .returned (.bool r) ∧ R r w'
theorem sock_Table_connFine.Call.mono {t r_0 r_1 r_2 r_3 r_4 r_5 r_6 r_7 r_8 r_9 r_10 r_11 r_12 r_13 r_14} {w : World} {R R' : Bool → World → Prop} (h : sock_Table_connFine.Call t r_0 r_1 r_2 r_3 r_4 r_5 r_6 r_7 r_8 r_9 r_10 r_11 r_12 r_13 r_14 w R) (hr : ∀ r w', R r w' → R' r w') : sock_Table_connFine.Call t r_0 r_1 r_2 r_3 r_4 r_5 r_6 r_7 r_8 r_9 r_10 r_11 r_12 r_13 r_14 w R' :=
  Calls.mono h fun e w' he => by
    obtain ⟨r, h1, h2⟩ := he
    exact ⟨r, h1, hr r w' h2⟩
def sock_Table_connFine.RV (R : Bool → World → Prop) (v : Value) (w : World) : Prop := match v with
  | .bool r => R r w
  | _ => False
theorem sock_Table_connFine.RV_elim {R : Bool → World → Prop} {v : Value} {w : World} (h : sock_Table_connFine.RV R v w) : ∃ r, Ending.returned v = .returned (.bool r) ∧ R r w := by
  unfold sock_Table_connFine.RV at h
  split at h
  · exact ⟨_, rfl, h⟩
  · exact h.elim
/-- (*e2e/sock.Table).take -/
def sock_Table_take.Call (t : Option Addr) (w : World) (R : Int → World → Prop) : Prop :=
  Calls Try.prog 65 #[.pointer t] w fun e w' => ∃ r, e = .returned (.int .i64 r) ∧ R r w'
theorem sock_Table_take.Call.mono {t} {w : World} {R R' : Int → World → Prop} (h : sock_Table_take.Call t w R) (hr : ∀ r w', R r w' → R' r w') : sock_Table_take.Call t w R' :=
  Calls.mono h fun e w' he => by
    obtain ⟨r, h1, h2⟩ := he
    exact ⟨r, h1, hr r w' h2⟩
def sock_Table_take.RV (R : Int → World → Prop) (v : Value) (w : World) : Prop := match v with
  | .int .i64 r => R r w
  | _ => False
theorem sock_Table_take.RV_elim {R : Int → World → Prop} {v : Value} {w : World} (h : sock_Table_take.RV R v w) : ∃ r, Ending.returned v = .returned (.int .i64 r) ∧ R r w := by
  unfold sock_Table_take.RV at h
  split at h
  · exact ⟨_, rfl, h⟩
  · exact h.elim
/-- (*e2e/sockm.Table).count -/
def sockm_Table_count.Call (t : Option Addr) (kind : Int) (w : World) (R : Int → World → Prop) : Prop :=
  Calls Try.prog 66 #[.pointer t, .int .i64 kind] w fun e w' => ∃ r, e = .returned (.int .i64 r) ∧ R r w'
theorem sockm_Table_count.Call.mono {t kind} {w : World} {R R' : Int → World → Prop} (h : sockm_Table_count.Call t kind w R) (hr : ∀ r w', R r w' → R' r w') : sockm_Table_count.Call t kind w R' :=
  Calls.mono h fun e w' he => by
    obtain ⟨r, h1, h2⟩ := he
    exact ⟨r, h1, hr r w' h2⟩
def sockm_Table_count.RV (R : Int → World → Prop) (v : Value) (w : World) : Prop := match v with
  | .int .i64 r => R r w
  | _ => False
theorem sockm_Table_count.RV_elim {R : Int → World → Prop} {v : Value} {w : World} (h : sockm_Table_count.RV R v w) : ∃ r, Ending.returned v = .returned (.int .i64 r) ∧ R r w := by
  unfold sockm_Table_count.RV at h
  split at h
  · exact ⟨_, rfl, h⟩
  · exact h.elim
/-- (*e2e/sockm.Table).add -/
def sockm_Table_add.Call (t : Option Addr) (e_0 e_1 e_2 e_3 e_4 e_5 e_6 : Int) (e_7 : Bool) (w : World) (R : Int → World → Prop) : Prop :=
  Calls Try.prog 67 #[.pointer t, .agg #[.int .i64 e_0, .int .i64 e_1, .int .i64 e_2, .int .i64 e_3, .int .i64 e_4, .int .i64 e_5, .int .i64 e_6, .bool e_7]] w fun e w' => ∃ r, e = .returned (.int .i64 r) ∧ R r w'
theorem sockm_Table_add.Call.mono {t e_0 e_1 e_2 e_3 e_4 e_5 e_6 e_7} {w : World} {R R' : Int → World → Prop} (h : sockm_Table_add.Call t e_0 e_1 e_2 e_3 e_4 e_5 e_6 e_7 w R) (hr : ∀ r w', R r w' → R' r w') : sockm_Table_add.Call t e_0 e_1 e_2 e_3 e_4 e_5 e_6 e_7 w R' :=
  Calls.mono h fun e w' he => by
    obtain ⟨r, h1, h2⟩ := he
    exact ⟨r, h1, hr r w' h2⟩
def sockm_Table_add.RV (R : Int → World → Prop) (v : Value) (w : World) : Prop := match v with
  | .int .i64 r => R r w
  | _ => False
theorem sockm_Table_add.RV_elim {R : Int → World → Prop} {v : Value} {w : World} (h : sockm_Table_add.RV R v w) : ∃ r, Ending.returned v = .returned (.int .i64 r) ∧ R r w := by
  unfold sockm_Table_add.RV at h
  split at h
  · exact ⟨_, rfl, h⟩
  · exact h.elim
/-- (*e2e/sock.Table).lowBlock -/
def sock_Table_lowBlock.Call (t : Option Addr) (w : World) (R : Int → World → Prop) : Prop :=
  Calls Try.prog 68 #[.pointer t] w fun e w' => ∃ r, e = .returned (.int .i64 r) ∧ R r w'
theorem sock_Table_lowBlock.Call.mono {t} {w : World} {R R' : Int → World → Prop} (h : sock_Table_lowBlock.Call t w R) (hr : ∀ r w', R r w' → R' r w') : sock_Table_lowBlock.Call t w R' :=
  Calls.mono h fun e w' he => by
    obtain ⟨r, h1, h2⟩ := he
    exact ⟨r, h1, hr r w' h2⟩
def sock_Table_lowBlock.RV (R : Int → World → Prop) (v : Value) (w : World) : Prop := match v with
  | .int .i64 r => R r w
  | _ => False
theorem sock_Table_lowBlock.RV_elim {R : Int → World → Prop} {v : Value} {w : World} (h : sock_Table_lowBlock.RV R v w) : ∃ r, Ending.returned v = .returned (.int .i64 r) ∧ R r w := by
  unfold sock_Table_lowBlock.RV at h
  split at h
  · exact ⟨_, rfl, h⟩
  · exact h.elim
/-- e2e/sock.nextEph -/
def sock_nextEph.Call (p : Int) (w : World) (R : Int → World → Prop) : Prop :=
  Calls Try.prog 69 #[.int .i64 p] w fun e w' => ∃ r, e = .returned (.int .i64 r) ∧ R r w'
theorem sock_nextEph.Call.mono {p} {w : World} {R R' : Int → World → Prop} (h : sock_nextEph.Call p w R) (hr : ∀ r w', R r w' → R' r w') : sock_nextEph.Call p w R' :=
  Calls.mono h fun e w' he => by
    obtain ⟨r, h1, h2⟩ := he
    exact ⟨r, h1, hr r w' h2⟩
def sock_nextEph.RV (R : Int → World → Prop) (v : Value) (w : World) : Prop := match v with
  | .int .i64 r => R r w
  | _ => False
theorem sock_nextEph.RV_elim {R : Int → World → Prop} {v : Value} {w : World} (h : sock_nextEph.RV R v w) : ∃ r, Ending.returned v = .returned (.int .i64 r) ∧ R r w := by
  unfold sock_nextEph.RV at h
  split at h
  · exact ⟨_, rfl, h⟩
  · exact h.elim
/-- (*e2e/sock.Table).conn -/
def sock_Table_conn.Call (t : Option Addr) (lport rhost rport slot parent : Int) (w : World) (R : Int → World → Prop) : Prop :=
  Calls Try.prog 70 #[.pointer t, .int .i64 lport, .int .i64 rhost, .int .i64 rport, .int .i64 slot, .int .i64 parent] w fun e w' => ∃ r, e = .returned (.int .i64 r) ∧ R r w'
theorem sock_Table_conn.Call.mono {t lport rhost rport slot parent} {w : World} {R R' : Int → World → Prop} (h : sock_Table_conn.Call t lport rhost rport slot parent w R) (hr : ∀ r w', R r w' → R' r w') : sock_Table_conn.Call t lport rhost rport slot parent w R' :=
  Calls.mono h fun e w' he => by
    obtain ⟨r, h1, h2⟩ := he
    exact ⟨r, h1, hr r w' h2⟩
def sock_Table_conn.RV (R : Int → World → Prop) (v : Value) (w : World) : Prop := match v with
  | .int .i64 r => R r w
  | _ => False
theorem sock_Table_conn.RV_elim {R : Int → World → Prop} {v : Value} {w : World} (h : sock_Table_conn.RV R v w) : ∃ r, Ending.returned v = .returned (.int .i64 r) ∧ R r w := by
  unfold sock_Table_conn.RV at h
  split at h
  · exact ⟨_, rfl, h⟩
  · exact h.elim
/-- (*e2e/sockm.Table).freeSlot -/
def sockm_Table_freeSlot.Call (t : Option Addr) (w : World) (R : Int → World → Prop) : Prop :=
  Calls Try.prog 71 #[.pointer t] w fun e w' => ∃ r, e = .returned (.int .i64 r) ∧ R r w'
theorem sockm_Table_freeSlot.Call.mono {t} {w : World} {R R' : Int → World → Prop} (h : sockm_Table_freeSlot.Call t w R) (hr : ∀ r w', R r w' → R' r w') : sockm_Table_freeSlot.Call t w R' :=
  Calls.mono h fun e w' he => by
    obtain ⟨r, h1, h2⟩ := he
    exact ⟨r, h1, hr r w' h2⟩
def sockm_Table_freeSlot.RV (R : Int → World → Prop) (v : Value) (w : World) : Prop := match v with
  | .int .i64 r => R r w
  | _ => False
theorem sockm_Table_freeSlot.RV_elim {R : Int → World → Prop} {v : Value} {w : World} (h : sockm_Table_freeSlot.RV R v w) : ∃ r, Ending.returned v = .returned (.int .i64 r) ∧ R r w := by
  unfold sockm_Table_freeSlot.RV at h
  split at h
  · exact ⟨_, rfl, h⟩
  · exact h.elim
/-- e2e/sockm.nextEph -/
def sockm_nextEph.Call (p : Int) (w : World) (R : Int → World → Prop) : Prop :=
  Calls Try.prog 72 #[.int .i64 p] w fun e w' => ∃ r, e = .returned (.int .i64 r) ∧ R r w'
theorem sockm_nextEph.Call.mono {p} {w : World} {R R' : Int → World → Prop} (h : sockm_nextEph.Call p w R) (hr : ∀ r w', R r w' → R' r w') : sockm_nextEph.Call p w R' :=
  Calls.mono h fun e w' he => by
    obtain ⟨r, h1, h2⟩ := he
    exact ⟨r, h1, hr r w' h2⟩
def sockm_nextEph.RV (R : Int → World → Prop) (v : Value) (w : World) : Prop := match v with
  | .int .i64 r => R r w
  | _ => False
theorem sockm_nextEph.RV_elim {R : Int → World → Prop} {v : Value} {w : World} (h : sockm_nextEph.RV R v w) : ∃ r, Ending.returned v = .returned (.int .i64 r) ∧ R r w := by
  unfold sockm_nextEph.RV at h
  split at h
  · exact ⟨_, rfl, h⟩
  · exact h.elim
/-- (*e2e/sock.Table).enqueue -/
def sock_Table_enqueue.Call (t : Option Addr) (l sd : Int) (w : World) (R : World → Prop) : Prop :=
  Calls Try.prog 73 #[.pointer t, .int .i64 l, .int .i64 sd] w fun e w' => e = .returned (.tuple #[]) ∧ R w'
theorem sock_Table_enqueue.Call.mono {t l sd} {w : World} {R R' : World → Prop} (h : sock_Table_enqueue.Call t l sd w R) (hr : ∀ w', R w' → R'  w') : sock_Table_enqueue.Call t l sd w R' :=
  Calls.mono h fun e w' he => by
    obtain ⟨h1, h2⟩ := he
    exact ⟨h1, hr  w' h2⟩
def sock_Table_enqueue.RV (R : World → Prop) (v : Value) (w : World) : Prop := match v with
  | .tuple ⟨[]⟩ => R w
  | _ => False
theorem sock_Table_enqueue.RV_elim {R : World → Prop} {v : Value} {w : World} (h : sock_Table_enqueue.RV R v w) : Ending.returned v = .returned (.tuple #[]) ∧ R w := by
  unfold sock_Table_enqueue.RV at h
  split at h
  · exact ⟨rfl, h⟩
  · exact h.elim
/-- (*e2e/sock.Table).dequeue -/
def sock_Table_dequeue.Call (t : Option Addr) (l : Int) (w : World) (R : Int → World → Prop) : Prop :=
  Calls Try.prog 74 #[.pointer t, .int .i64 l] w fun e w' => ∃ r, e = .returned (.int .i64 r) ∧ R r w'
theorem sock_Table_dequeue.Call.mono {t l} {w : World} {R R' : Int → World → Prop} (h : sock_Table_dequeue.Call t l w R) (hr : ∀ r w', R r w' → R' r w') : sock_Table_dequeue.Call t l w R' :=
  Calls.mono h fun e w' he => by
    obtain ⟨r, h1, h2⟩ := he
    exact ⟨r, h1, hr r w' h2⟩
def sock_Table_dequeue.RV (R : Int → World → Prop) (v : Value) (w : World) : Prop := match v with
  | .int .i64 r => R r w
  | _ => False
theorem sock_Table_dequeue.RV_elim {R : Int → World → Prop} {v : Value} {w : World} (h : sock_Table_dequeue.RV R v w) : ∃ r, Ending.returned v = .returned (.int .i64 r) ∧ R r w := by
  unfold sock_Table_dequeue.RV at h
  split at h
  · exact ⟨_, rfl, h⟩
  · exact h.elim
/-- (*e2e/sock.Table).unlink -/
def sock_Table_unlink.Call (t : Option Addr) (i : Int) (w : World) (R : World → Prop) : Prop :=
  Calls Try.prog 75 #[.pointer t, .int .i64 i] w fun e w' => e = .returned (.tuple #[]) ∧ R w'
theorem sock_Table_unlink.Call.mono {t i} {w : World} {R R' : World → Prop} (h : sock_Table_unlink.Call t i w R) (hr : ∀ w', R w' → R'  w') : sock_Table_unlink.Call t i w R' :=
  Calls.mono h fun e w' he => by
    obtain ⟨h1, h2⟩ := he
    exact ⟨h1, hr  w' h2⟩
def sock_Table_unlink.RV (R : World → Prop) (v : Value) (w : World) : Prop := match v with
  | .tuple ⟨[]⟩ => R w
  | _ => False
theorem sock_Table_unlink.RV_elim {R : World → Prop} {v : Value} {w : World} (h : sock_Table_unlink.RV R v w) : Ending.returned v = .returned (.tuple #[]) ∧ R w := by
  unfold sock_Table_unlink.RV at h
  split at h
  · exact ⟨rfl, h⟩
  · exact h.elim
/-- (*e2e/sock.Table).orphan -/
def sock_Table_orphan.Call (t : Option Addr) (i : Int) (w : World) (R : World → Prop) : Prop :=
  Calls Try.prog 76 #[.pointer t, .int .i64 i] w fun e w' => e = .returned (.tuple #[]) ∧ R w'
theorem sock_Table_orphan.Call.mono {t i} {w : World} {R R' : World → Prop} (h : sock_Table_orphan.Call t i w R) (hr : ∀ w', R w' → R'  w') : sock_Table_orphan.Call t i w R' :=
  Calls.mono h fun e w' he => by
    obtain ⟨h1, h2⟩ := he
    exact ⟨h1, hr  w' h2⟩
def sock_Table_orphan.RV (R : World → Prop) (v : Value) (w : World) : Prop := match v with
  | .tuple ⟨[]⟩ => R w
  | _ => False
theorem sock_Table_orphan.RV_elim {R : World → Prop} {v : Value} {w : World} (h : sock_Table_orphan.RV R v w) : Ending.returned v = .returned (.tuple #[]) ∧ R w := by
  unfold sock_Table_orphan.RV at h
  split at h
  · exact ⟨rfl, h⟩
  · exact h.elim
/-- (*e2e/sock.Table).give -/
def sock_Table_give.Call (t : Option Addr) (i : Int) (w : World) (R : World → Prop) : Prop :=
  Calls Try.prog 77 #[.pointer t, .int .i64 i] w fun e w' => e = .returned (.tuple #[]) ∧ R w'
theorem sock_Table_give.Call.mono {t i} {w : World} {R R' : World → Prop} (h : sock_Table_give.Call t i w R) (hr : ∀ w', R w' → R'  w') : sock_Table_give.Call t i w R' :=
  Calls.mono h fun e w' he => by
    obtain ⟨h1, h2⟩ := he
    exact ⟨h1, hr  w' h2⟩
def sock_Table_give.RV (R : World → Prop) (v : Value) (w : World) : Prop := match v with
  | .tuple ⟨[]⟩ => R w
  | _ => False
theorem sock_Table_give.RV_elim {R : World → Prop} {v : Value} {w : World} (h : sock_Table_give.RV R v w) : Ending.returned v = .returned (.tuple #[]) ∧ R w := by
  unfold sock_Table_give.RV at h
  split at h
  · exact ⟨rfl, h⟩
  · exact h.elim
/-- e2e/sock.wrap -/
def sock_wrap.Call (k : Int) (w : World) (R : Int → World → Prop) : Prop :=
  Calls Try.prog 78 #[.int .i64 k] w fun e w' => ∃ r, e = .returned (.int .i64 r) ∧ R r w'
theorem sock_wrap.Call.mono {k} {w : World} {R R' : Int → World → Prop} (h : sock_wrap.Call k w R) (hr : ∀ r w', R r w' → R' r w') : sock_wrap.Call k w R' :=
  Calls.mono h fun e w' he => by
    obtain ⟨r, h1, h2⟩ := he
    exact ⟨r, h1, hr r w' h2⟩
def sock_wrap.RV (R : Int → World → Prop) (v : Value) (w : World) : Prop := match v with
  | .int .i64 r => R r w
  | _ => False
theorem sock_wrap.RV_elim {R : Int → World → Prop} {v : Value} {w : World} (h : sock_wrap.RV R v w) : ∃ r, Ending.returned v = .returned (.int .i64 r) ∧ R r w := by
  unfold sock_wrap.RV at h
  split at h
  · exact ⟨_, rfl, h⟩
  · exact h.elim
/-- (*e2e/sock.Table).link -/
def sock_Table_link.Call (t : Option Addr) (i : Int) (w : World) (R : World → Prop) : Prop :=
  Calls Try.prog 79 #[.pointer t, .int .i64 i] w fun e w' => e = .returned (.tuple #[]) ∧ R w'
theorem sock_Table_link.Call.mono {t i} {w : World} {R R' : World → Prop} (h : sock_Table_link.Call t i w R) (hr : ∀ w', R w' → R'  w') : sock_Table_link.Call t i w R' :=
  Calls.mono h fun e w' he => by
    obtain ⟨h1, h2⟩ := he
    exact ⟨h1, hr  w' h2⟩
def sock_Table_link.RV (R : World → Prop) (v : Value) (w : World) : Prop := match v with
  | .tuple ⟨[]⟩ => R w
  | _ => False
theorem sock_Table_link.RV_elim {R : World → Prop} {v : Value} {w : World} (h : sock_Table_link.RV R v w) : Ending.returned v = .returned (.tuple #[]) ∧ R w := by
  unfold sock_Table_link.RV at h
  split at h
  · exact ⟨rfl, h⟩
  · exact h.elim
/-- (*e2e/sock.Table).leave -/
def sock_Table_leave.Call (t : Option Addr) (l sd : Int) (w : World) (R : World → Prop) : Prop :=
  Calls Try.prog 80 #[.pointer t, .int .i64 l, .int .i64 sd] w fun e w' => e = .returned (.tuple #[]) ∧ R w'
theorem sock_Table_leave.Call.mono {t l sd} {w : World} {R R' : World → Prop} (h : sock_Table_leave.Call t l sd w R) (hr : ∀ w', R w' → R'  w') : sock_Table_leave.Call t l sd w R' :=
  Calls.mono h fun e w' he => by
    obtain ⟨h1, h2⟩ := he
    exact ⟨h1, hr  w' h2⟩
def sock_Table_leave.RV (R : World → Prop) (v : Value) (w : World) : Prop := match v with
  | .tuple ⟨[]⟩ => R w
  | _ => False
theorem sock_Table_leave.RV_elim {R : World → Prop} {v : Value} {w : World} (h : sock_Table_leave.RV R v w) : Ending.returned v = .returned (.tuple #[]) ∧ R w := by
  unfold sock_Table_leave.RV at h
  split at h
  · exact ⟨rfl, h⟩
  · exact h.elim
end Go.Proofs.Qxb6500427a
