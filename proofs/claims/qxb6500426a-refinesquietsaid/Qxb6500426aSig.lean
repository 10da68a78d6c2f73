import Derived.Test.Qxb6500426aProg
import Derived.Test.Qxb6500426aVcC
open Go.Vc
namespace Go.Proofs.Qxb6500426a
theorem Try.mixed : Try.prog.follows .mixedOrders = true := by kernel_rfl
abbrev T_int64 : TypeId := 2
abbrev T_int : TypeId := 3
abbrev T_bool : TypeId := 4
abbrev T_uint8 : TypeId := 5
abbrev T_string : TypeId := 9
abbrev T_uintptr : TypeId := 12
abbrev T_int32 : TypeId := 21
abbrev T_api_Op : TypeId := 32
abbrev T_api_Segment : TypeId := 39
abbrev T_seglaw_World : TypeId := 43
abbrev T_seg_SendBuf : TypeId := 53
abbrev T_segm_SendBuf : TypeId := 55
abbrev T_uint16 : TypeId := 56
abbrev T_seg_RecvBuf : TypeId := 58
abbrev T_segm_RecvBuf : TypeId := 61
abbrev T_api_Errno : TypeId := 71
abbrev T_uint : TypeId := 78
abbrev T_seg_sums : TypeId := 87
abbrev T_uint32 : TypeId := 102
/-- e2e/seglaw.Refines -/
def seglaw_Refines.Call (script_b : Option Addr) (script_l script_c : Nat) (w : World) (R : Bool → World → Prop) : Prop :=
  Calls Try.prog 3 #[.slice script_b script_l script_c] w fun e w' => ∃ r, e = .returned (.bool r) ∧ R r w'
theorem seglaw_Refines.Call.mono {script_b script_l script_c} {w : World} {R R' : Bool → World → Prop} (h : seglaw_Refines.Call script_b script_l script_c w R) (hr : ∀ r w', R r w' → R' r w') : seglaw_Refines.Call script_b script_l script_c w R' :=
  Calls.mono h fun e w' he => by
    obtain ⟨r, h1, h2⟩ := he
    exact ⟨r, h1, hr r w' h2⟩
def seglaw_Refines.RV (R : Bool → World → Prop) (v : Value) (w : World) : Prop := match v with
  | .bool r => R r w
  | _ => False
theorem seglaw_Refines.RV_elim {R : Bool → World → Prop} {v : Value} {w : World} (h : seglaw_Refines.RV R v w) : ∃ r, Ending.returned v = .returned (.bool r) ∧ R r w := by
  unfold seglaw_Refines.RV at h
  split at h
  · exact ⟨_, rfl, h⟩
  · exact h.elim
/-- e2e/seglaw.RefinesQuiet -/
def seglaw_RefinesQuiet.Call (script_b : Option Addr) (script_l script_c : Nat) (w : World) (R : Bool → World → Prop) : Prop :=
  Calls Try.prog 4 #[.slice script_b script_l script_c] w fun e w' => ∃ r, e = .returned (.bool r) ∧ R r w'
theorem seglaw_RefinesQuiet.Call.mono {script_b script_l script_c} {w : World} {R R' : Bool → World → Prop} (h : seglaw_RefinesQuiet.Call script_b script_l script_c w R) (hr : ∀ r w', R r w' → R' r w') : seglaw_RefinesQuiet.Call script_b script_l script_c w R' :=
  Calls.mono h fun e w' he => by
    obtain ⟨r, h1, h2⟩ := he
    exact ⟨r, h1, hr r w' h2⟩
def seglaw_RefinesQuiet.RV (R : Bool → World → Prop) (v : Value) (w : World) : Prop := match v with
  | .bool r => R r w
  | _ => False
theorem seglaw_RefinesQuiet.RV_elim {R : Bool → World → Prop} {v : Value} {w : World} (h : seglaw_RefinesQuiet.RV R v w) : ∃ r, Ending.returned v = .returned (.bool r) ∧ R r w := by
  unfold seglaw_RefinesQuiet.RV at h
  split at h
  · exact ⟨_, rfl, h⟩
  · exact h.elim
/-- e2e/seglaw.RefinesUpTo -/
def seglaw_RefinesUpTo.Call (script_b : Option Addr) (script_l script_c : Nat) (w : World) (R : Int → World → Prop) : Prop :=
  Calls Try.prog 5 #[.slice script_b script_l script_c] w fun e w' => ∃ r, e = .returned (.int .i64 r) ∧ R r w'
theorem seglaw_RefinesUpTo.Call.mono {script_b script_l script_c} {w : World} {R R' : Int → World → Prop} (h : seglaw_RefinesUpTo.Call script_b script_l script_c w R) (hr : ∀ r w', R r w' → R' r w') : seglaw_RefinesUpTo.Call script_b script_l script_c w R' :=
  Calls.mono h fun e w' he => by
    obtain ⟨r, h1, h2⟩ := he
    exact ⟨r, h1, hr r w' h2⟩
def seglaw_RefinesUpTo.RV (R : Int → World → Prop) (v : Value) (w : World) : Prop := match v with
  | .int .i64 r => R r w
  | _ => False
theorem seglaw_RefinesUpTo.RV_elim {R : Int → World → Prop} {v : Value} {w : World} (h : seglaw_RefinesUpTo.RV R v w) : ∃ r, Ending.returned v = .returned (.int .i64 r) ∧ R r w := by
  unfold seglaw_RefinesUpTo.RV at h
  split at h
  · exact ⟨_, rfl, h⟩
  · exact h.elim
/-- e2e/seglaw.RefinesQuietUpTo -/
def seglaw_RefinesQuietUpTo.Call (script_b : Option Addr) (script_l script_c : Nat) (w : World) (R : Int → World → Prop) : Prop :=
  Calls Try.prog 6 #[.slice script_b script_l script_c] w fun e w' => ∃ r, e = .returned (.int .i64 r) ∧ R r w'
theorem seglaw_RefinesQuietUpTo.Call.mono {script_b script_l script_c} {w : World} {R R' : Int → World → Prop} (h : seglaw_RefinesQuietUpTo.Call script_b script_l script_c w R) (hr : ∀ r w', R r w' → R' r w') : seglaw_RefinesQuietUpTo.Call script_b script_l script_c w R' :=
  Calls.mono h fun e w' he => by
    obtain ⟨r, h1, h2⟩ := he
    exact ⟨r, h1, hr r w' h2⟩
def seglaw_RefinesQuietUpTo.RV (R : Int → World → Prop) (v : Value) (w : World) : Prop := match v with
  | .int .i64 r => R r w
  | _ => False
theorem seglaw_RefinesQuietUpTo.RV_elim {R : Int → World → Prop} {v : Value} {w : World} (h : seglaw_RefinesQuietUpTo.RV R v w) : ∃ r, Ending.returned v = .returned (.int .i64 r) ∧ R r w := by
  unfold seglaw_RefinesQuietUpTo.RV at h
  split at h
  · exact ⟨_, rfl, h⟩
  · exact h.elim
/-- e2e/seglaw.walk -/
def seglaw_walk.Call (script_b : Option Addr) (script_l script_c : Nat) (quiet : Bool) (w : World) (R : Int → Int → World → Prop) : Prop :=
  Calls Try.prog 7 #[.slice script_b script_l script_c, .bool quiet] w fun e w' => ∃ r0 r1, e = .returned (.tuple #[.int .i64 r0, .int .i64 r1]) ∧ R r0 r1 w'
theorem seglaw_walk.Call.mono {script_b script_l script_c quiet} {w : World} {R R' : Int → Int → World → Prop} (h : seglaw_walk.Call script_b script_l script_c quiet w R) (hr : ∀ r0 r1 w', R r0 r1 w' → R' r0 r1 w') : seglaw_walk.Call script_b script_l script_c quiet w R' :=
  Calls.mono h fun e w' he => by
    obtain ⟨r0, r1, h1, h2⟩ := he
    exact ⟨r0, r1, h1, hr r0 r1 w' h2⟩
def seglaw_walk.RV (R : Int → Int → World → Prop) (v : Value) (w : World) : Prop := match v with
  | .tuple ⟨[.int .i64 r0, .int .i64 r1]⟩ => R r0 r1 w
  | _ => False
theorem seglaw_walk.RV_elim {R : Int → Int → World → Prop} {v : Value} {w : World} (h : seglaw_walk.RV R v w) : ∃ r0 r1, Ending.returned v = .returned (.tuple #[.int .i64 r0, .int .i64 r1]) ∧ R r0 r1 w := by
  unfold seglaw_walk.RV at h
  split at h
  · exact ⟨_, _, rfl, h⟩
  · exact h.elim
/-- e2e/seglaw.NewWorld -/
def seglaw_NewWorld.Call (quiet : Bool) (w : World) (R : Option Addr → World → Prop) : Prop :=
  Calls Try.prog 8 #[.bool quiet] w fun e w' => ∃ r, e = .returned (.pointer r) ∧ R r w'
theorem seglaw_NewWorld.Call.mono {quiet} {w : World} {R R' : Option Addr → World → Prop} (h : seglaw_NewWorld.Call quiet w R) (hr : ∀ r w', R r w' → R' r w') : seglaw_NewWorld.Call quiet w R' :=
  Calls.mono h fun e w' he => by
    obtain ⟨r, h1, h2⟩ := he
    exact ⟨r, h1, hr r w' h2⟩
def seglaw_NewWorld.RV (R : Option Addr → World → Prop) (v : Value) (w : World) : Prop := match v with
  | .pointer r => R r w
  | _ => False
theorem seglaw_NewWorld.RV_elim {R : Option Addr → World → Prop} {v : Value} {w : World} (h : seglaw_NewWorld.RV R v w) : ∃ r, Ending.returned v = .returned (.pointer r) ∧ R r w := by
  unfold seglaw_NewWorld.RV at h
  split at h
  · exact ⟨_, rfl, h⟩
  · exact h.elim
/-- (*e2e/seglaw.World).Alike -/
def seglaw_World_Alike.Call (w0 : Option Addr) (w : World) (R : Bool → World → Prop) : Prop :=
  Calls Try.prog 9 #[.pointer w0] w fun e w' => ∃ r, e = .returned (.bool r) ∧ R r w'
theorem seglaw_World_Alike.Call.mono {w0} {w : World} {R R' : Bool → World → Prop} (h : seglaw_World_Alike.Call w0 w R) (hr : ∀ r w', R r w' → R' r w') : seglaw_World_Alike.Call w0 w R' :=
  Calls.mono h fun e w' he => by
    obtain ⟨r, h1, h2⟩ := he
    exact ⟨r, h1, hr r w' h2⟩
def seglaw_World_Alike.RV (R : Bool → World → Prop) (v : Value) (w : World) : Prop := match v with
  | .bool r => R r w
  | _ => False
theorem seglaw_World_Alike.RV_elim {R : Bool → World → Prop} {v : Value} {w : World} (h : seglaw_World_Alike.RV R v w) : ∃ r, Ending.returned v = .returned (.bool r) ∧ R r w := by
  unfold seglaw_World_Alike.RV at h
  split at h
  · exact ⟨_, rfl, h⟩
  · exact h.elim
/-- (*e2e/seglaw.World).Step -/
def seglaw_World_Step.Call (w0 : Option Addr) (o_0 o_1 o_2 o_3 : Int) (o_4 o_5 : ByteArray) (w : World) (R : Bool → World → Prop) : Prop :=
  Calls Try.prog 10 #[.pointer w0, .agg #[.int .i64 o_0, .int .i64 o_1, .int .i64 o_2, .int .i64 o_3, .string o_4, .string o_5]] w fun e w' => ∃ r, e = .returned (.bool r) ∧ R r w'
theorem seglaw_World_Step.Call.mono {w0 o_0 o_1 o_2 o_3 o_4 o_5} {w : World} {R R' : Bool → World → Prop} (h : seglaw_World_Step.Call w0 o_0 o_1 o_2 o_3 o_4 o_5 w R) (hr : ∀ r w', R r w' → R' r w') : seglaw_World_Step.Call w0 o_0 o_1 o_2 o_3 o_4 o_5 w R' :=
  Calls.mono h fun e w' he => by
    obtain ⟨r, h1, h2⟩ := he
    exact ⟨r, h1, hr r w' h2⟩
def seglaw_World_Step.RV (R : Bool → World → Prop) (v : Value) (w : World) : Prop := match v with
  | .bool r => R r w
  | _ => False
theorem seglaw_World_Step.RV_elim {R : Bool → World → Prop} {v : Value} {w : World} (h : seglaw_World_Step.RV R v w) : ∃ r, Ending.returned v = .returned (.bool r) ∧ R r w := by
  unfold seglaw_World_Step.RV at h
  split at h
  · exact ⟨_, rfl, h⟩
  · exact h.elim
/-- (*e2e/seglaw.World).Untouched -/
def seglaw_World_Untouched.Call (w0 : Option Addr) (w : World) (R : Bool → World → Prop) : Prop :=
  Calls Try.prog 11 #[.pointer w0] w fun e w' => ∃ r, e = .returned (.bool r) ∧ R r w'
theorem seglaw_World_Untouched.Call.mono {w0} {w : World} {R R' : Bool → World → Prop} (h : seglaw_World_Untouched.Call w0 w R) (hr : ∀ r w', R r w' → R' r w') : seglaw_World_Untouched.Call w0 w R' :=
  Calls.mono h fun e w' he => by
    obtain ⟨r, h1, h2⟩ := he
    exact ⟨r, h1, hr r w' h2⟩
def seglaw_World_Untouched.RV (R : Bool → World → Prop) (v : Value) (w : World) : Prop := match v with
  | .bool r => R r w
  | _ => False
theorem seglaw_World_Untouched.RV_elim {R : Bool → World → Prop} {v : Value} {w : World} (h : seglaw_World_Untouched.RV R v w) : ∃ r, Ending.returned v = .returned (.bool r) ∧ R r w := by
  unfold seglaw_World_Untouched.RV at h
  split at h
  · exact ⟨_, rfl, h⟩
  · exact h.elim
/-- e2e/seg.NewSendBuf -/
def seg_NewSendBuf.Call  (w : World) (R : Option Addr → World → Prop) : Prop :=
  Calls Try.prog 12 #[] w fun e w' => ∃ r, e = .returned (.pointer r) ∧ R r w'
theorem seg_NewSendBuf.Call.mono {w : World} {R R' : Option Addr → World → Prop} (h : seg_NewSendBuf.Call w R) (hr : ∀ r w', R r w' → R' r w') : seg_NewSendBuf.Call w R' :=
  Calls.mono h fun e w' he => by
    obtain ⟨r, h1, h2⟩ := he
    exact ⟨r, h1, hr r w' h2⟩
def seg_NewSendBuf.RV (R : Option Addr → World → Prop) (v : Value) (w : World) : Prop := match v with
  | .pointer r => R r w
  | _ => False
theorem seg_NewSendBuf.RV_elim {R : Option Addr → World → Prop} {v : Value} {w : World} (h : seg_NewSendBuf.RV R v w) : ∃ r, Ending.returned v = .returned (.pointer r) ∧ R r w := by
  unfold seg_NewSendBuf.RV at h
  split at h
  · exact ⟨_, rfl, h⟩
  · exact h.elim
/-- e2e/segm.NewSendBuf -/
def segm_NewSendBuf.Call  (w : World) (R : Option Addr → World → Prop) : Prop :=
  Calls Try.prog 13 #[] w fun e w' => ∃ r, e = .returned (.pointer r) ∧ R r w'
theorem segm_NewSendBuf.Call.mono {w : World} {R R' : Option Addr → World → Prop} (h : segm_NewSendBuf.Call w R) (hr : ∀ r w', R r w' → R' r w') : segm_NewSendBuf.Call w R' :=
  Calls.mono h fun e w' he => by
    obtain ⟨r, h1, h2⟩ := he
    exact ⟨r, h1, hr r w' h2⟩
def segm_NewSendBuf.RV (R : Option Addr → World → Prop) (v : Value) (w : World) : Prop := match v with
  | .pointer r => R r w
  | _ => False
theorem segm_NewSendBuf.RV_elim {R : Option Addr → World → Prop} {v : Value} {w : World} (h : segm_NewSendBuf.RV R v w) : ∃ r, Ending.returned v = .returned (.pointer r) ∧ R r w := by
  unfold segm_NewSendBuf.RV at h
  split at h
  · exact ⟨_, rfl, h⟩
  · exact h.elim
/-- e2e/seg.NewRecvBuf -/
def seg_NewRecvBuf.Call  (w : World) (R : Option Addr → World → Prop) : Prop :=
  Calls Try.prog 14 #[] w fun e w' => ∃ r, e = .returned (.pointer r) ∧ R r w'
theorem seg_NewRecvBuf.Call.mono {w : World} {R R' : Option Addr → World → Prop} (h : seg_NewRecvBuf.Call w R) (hr : ∀ r w', R r w' → R' r w') : seg_NewRecvBuf.Call w R' :=
  Calls.mono h fun e w' he => by
    obtain ⟨r, h1, h2⟩ := he
    exact ⟨r, h1, hr r w' h2⟩
def seg_NewRecvBuf.RV (R : Option Addr → World → Prop) (v : Value) (w : World) : Prop := match v with
  | .pointer r => R r w
  | _ => False
theorem seg_NewRecvBuf.RV_elim {R : Option Addr → World → Prop} {v : Value} {w : World} (h : seg_NewRecvBuf.RV R v w) : ∃ r, Ending.returned v = .returned (.pointer r) ∧ R r w := by
  unfold seg_NewRecvBuf.RV at h
  split at h
  · exact ⟨_, rfl, h⟩
  · exact h.elim
/-- e2e/segm.NewRecvBuf -/
def segm_NewRecvBuf.Call  (w : World) (R : Option Addr → World → Prop) : Prop :=
  Calls Try.prog 15 #[] w fun e w' => ∃ r, e = .returned (.pointer r) ∧ R r w'
theorem segm_NewRecvBuf.Call.mono {w : World} {R R' : Option Addr → World → Prop} (h : segm_NewRecvBuf.Call w R) (hr : ∀ r w', R r w' → R' r w') : segm_NewRecvBuf.Call w R' :=
  Calls.mono h fun e w' he => by
    obtain ⟨r, h1, h2⟩ := he
    exact ⟨r, h1, hr r w' h2⟩
def segm_NewRecvBuf.RV (R : Option Addr → World → Prop) (v : Value) (w : World) : Prop := match v with
  | .pointer r => R r w
  | _ => False
theorem segm_NewRecvBuf.RV_elim {R : Option Addr → World → Prop} {v : Value} {w : World} (h : segm_NewRecvBuf.RV R v w) : ∃ r, Ending.returned v = .returned (.pointer r) ∧ R r w := by
  unfold segm_NewRecvBuf.RV at h
  split at h
  · exact ⟨_, rfl, h⟩
  · exact h.elim
/-- (*e2e/seglaw.World).See -/
def seglaw_World_See.Call (w0 : Option Addr) (kind : Int) (w : World) (R : Bool → World → Prop) : Prop :=
  Calls Try.prog 16 #[.pointer w0, .int .i64 kind] w fun e w' => ∃ r, e = .returned (.bool r) ∧ R r w'
theorem seglaw_World_See.Call.mono {w0 kind} {w : World} {R R' : Bool → World → Prop} (h : seglaw_World_See.Call w0 kind w R) (hr : ∀ r w', R r w' → R' r w') : seglaw_World_See.Call w0 kind w R' :=
  Calls.mono h fun e w' he => by
    obtain ⟨r, h1, h2⟩ := he
    exact ⟨r, h1, hr r w' h2⟩
def seglaw_World_See.RV (R : Bool → World → Prop) (v : Value) (w : World) : Prop := match v with
  | .bool r => R r w
  | _ => False
theorem seglaw_World_See.RV_elim {R : Bool → World → Prop} {v : Value} {w : World} (h : seglaw_World_See.RV R v w) : ∃ r, Ending.returned v = .returned (.bool r) ∧ R r w := by
  unfold seglaw_World_See.RV at h
  split at h
  · exact ⟨_, rfl, h⟩
  · exact h.elim
/-- (*e2e/seglaw.World).LikeAgain -/
def seglaw_World_LikeAgain.Call (w0 : Option Addr) (max : Int) (w : World) (R : Bool → World → Prop) : Prop :=
  Calls Try.prog 17 #[.pointer w0, .int .i64 max] w fun e w' => ∃ r, e = .returned (.bool r) ∧ R r w'
theorem seglaw_World_LikeAgain.Call.mono {w0 max} {w : World} {R R' : Bool → World → Prop} (h : seglaw_World_LikeAgain.Call w0 max w R) (hr : ∀ r w', R r w' → R' r w') : seglaw_World_LikeAgain.Call w0 max w R' :=
  Calls.mono h fun e w' he => by
    obtain ⟨r, h1, h2⟩ := he
    exact ⟨r, h1, hr r w' h2⟩
def seglaw_World_LikeAgain.RV (R : Bool → World → Prop) (v : Value) (w : World) : Prop := match v with
  | .bool r => R r w
  | _ => False
theorem seglaw_World_LikeAgain.RV_elim {R : Bool → World → Prop} {v : Value} {w : World} (h : seglaw_World_LikeAgain.RV R v w) : ∃ r, Ending.returned v = .returned (.bool r) ∧ R r w := by
  unfold seglaw_World_LikeAgain.RV at h
  split at h
  · exact ⟨_, rfl, h⟩
  · exact h.elim
/-- (*e2e/seglaw.World).Play -/
def seglaw_World_Play.Call (w0 : Option Addr) (o_0 o_1 o_2 o_3 : Int) (o_4 o_5 : ByteArray) (w : World) (R : Bool → World → Prop) : Prop :=
  Calls Try.prog 18 #[.pointer w0, .agg #[.int .i64 o_0, .int .i64 o_1, .int .i64 o_2, .int .i64 o_3, .string o_4, .string o_5]] w fun e w' => ∃ r, e = .returned (.bool r) ∧ R r w'
theorem seglaw_World_Play.Call.mono {w0 o_0 o_1 o_2 o_3 o_4 o_5} {w : World} {R R' : Bool → World → Prop} (h : seglaw_World_Play.Call w0 o_0 o_1 o_2 o_3 o_4 o_5 w R) (hr : ∀ r w', R r w' → R' r w') : seglaw_World_Play.Call w0 o_0 o_1 o_2 o_3 o_4 o_5 w R' :=
  Calls.mono h fun e w' he => by
    obtain ⟨r, h1, h2⟩ := he
    exact ⟨r, h1, hr r w' h2⟩
def seglaw_World_Play.RV (R : Bool → World → Prop) (v : Value) (w : World) : Prop := match v with
  | .bool r => R r w
  | _ => False
theorem seglaw_World_Play.RV_elim {R : Bool → World → Prop} {v : Value} {w : World} (h : seglaw_World_Play.RV R v w) : ∃ r, Ending.returned v = .returned (.bool r) ∧ R r w := by
  unfold seglaw_World_Play.RV at h
  split at h
  · exact ⟨_, rfl, h⟩
  · exact h.elim
/-- (*e2e/seglaw.World).Keeps -/
def seglaw_World_Keeps.Call (w0 : Option Addr) (w : World) (R : Bool → World → Prop) : Prop :=
  Calls Try.prog 19 #[.pointer w0] w fun e w' => ∃ r, e = .returned (.bool r) ∧ R r w'
theorem seglaw_World_Keeps.Call.mono {w0} {w : World} {R R' : Bool → World → Prop} (h : seglaw_World_Keeps.Call w0 w R) (hr : ∀ r w', R r w' → R' r w') : seglaw_World_Keeps.Call w0 w R' :=
  Calls.mono h fun e w' he => by
    obtain ⟨r, h1, h2⟩ := he
    exact ⟨r, h1, hr r w' h2⟩
def seglaw_World_Keeps.RV (R : Bool → World → Prop) (v : Value) (w : World) : Prop := match v with
  | .bool r => R r w
  | _ => False
theorem seglaw_World_Keeps.RV_elim {R : Bool → World → Prop} {v : Value} {w : World} (h : seglaw_World_Keeps.RV R v w) : ∃ r, Ending.returned v = .returned (.bool r) ∧ R r w := by
  unfold seglaw_World_Keeps.RV at h
  split at h
  · exact ⟨_, rfl, h⟩
  · exact h.elim
/-- e2e/seglaw.Stamp -/
def seglaw_Stamp.Call (j i : Int) (w : World) (R : Int → World → Prop) : Prop :=
  Calls Try.prog 20 #[.int .i64 j, .int .i64 i] w fun e w' => ∃ r, e = .returned (.int .u8 r) ∧ R r w'
theorem seglaw_Stamp.Call.mono {j i} {w : World} {R R' : Int → World → Prop} (h : seglaw_Stamp.Call j i w R) (hr : ∀ r w', R r w' → R' r w') : seglaw_Stamp.Call j i w R' :=
  Calls.mono h fun e w' he => by
    obtain ⟨r, h1, h2⟩ := he
    exact ⟨r, h1, hr r w' h2⟩
def seglaw_Stamp.RV (R : Int → World → Prop) (v : Value) (w : World) : Prop := match v with
  | .int .u8 r => R r w
  | _ => False
theorem seglaw_Stamp.RV_elim {R : Int → World → Prop} {v : Value} {w : World} (h : seglaw_Stamp.RV R v w) : ∃ r, Ending.returned v = .returned (.int .u8 r) ∧ R r w := by
  unfold seglaw_Stamp.RV at h
  split at h
  · exact ⟨_, rfl, h⟩
  · exact h.elim
/-- (*e2e/seg.SendBuf).Una -/
def seg_SendBuf_Una.Call (b : Option Addr) (w : World) (R : Int → World → Prop) : Prop :=
  Calls Try.prog 21 #[.pointer b] w fun e w' => ∃ r, e = .returned (.int .i64 r) ∧ R r w'
theorem seg_SendBuf_Una.Call.mono {b} {w : World} {R R' : Int → World → Prop} (h : seg_SendBuf_Una.Call b w R) (hr : ∀ r w', R r w' → R' r w') : seg_SendBuf_Una.Call b w R' :=
  Calls.mono h fun e w' he => by
    obtain ⟨r, h1, h2⟩ := he
    exact ⟨r, h1, hr r w' h2⟩
def seg_SendBuf_Una.RV (R : Int → World → Prop) (v : Value) (w : World) : Prop := match v with
  | .int .i64 r => R r w
  | _ => False
theorem seg_SendBuf_Una.RV_elim {R : Int → World → Prop} {v : Value} {w : World} (h : seg_SendBuf_Una.RV R v w) : ∃ r, Ending.returned v = .returned (.int .i64 r) ∧ R r w := by
  unfold seg_SendBuf_Una.RV at h
  split at h
  · exact ⟨_, rfl, h⟩
  · exact h.elim
/-- (*e2e/segm.SendBuf).Una -/
def segm_SendBuf_Una.Call (b : Option Addr) (w : World) (R : Int → World → Prop) : Prop :=
  Calls Try.prog 22 #[.pointer b] w fun e w' => ∃ r, e = .returned (.int .i64 r) ∧ R r w'
theorem segm_SendBuf_Una.Call.mono {b} {w : World} {R R' : Int → World → Prop} (h : segm_SendBuf_Una.Call b w R) (hr : ∀ r w', R r w' → R' r w') : segm_SendBuf_Una.Call b w R' :=
  Calls.mono h fun e w' he => by
    obtain ⟨r, h1, h2⟩ := he
    exact ⟨r, h1, hr r w' h2⟩
def segm_SendBuf_Una.RV (R : Int → World → Prop) (v : Value) (w : World) : Prop := match v with
  | .int .i64 r => R r w
  | _ => False
theorem segm_SendBuf_Una.RV_elim {R : Int → World → Prop} {v : Value} {w : World} (h : segm_SendBuf_Una.RV R v w) : ∃ r, Ending.returned v = .returned (.int .i64 r) ∧ R r w := by
  unfold segm_SendBuf_Una.RV at h
  split at h
  · exact ⟨_, rfl, h⟩
  · exact h.elim
/-- (*e2e/seg.SendBuf).Nxt -/
def seg_SendBuf_Nxt.Call (b : Option Addr) (w : World) (R : Int → World → Prop) : Prop :=
  Calls Try.prog 23 #[.pointer b] w fun e w' => ∃ r, e = .returned (.int .i64 r) ∧ R r w'
theorem seg_SendBuf_Nxt.Call.mono {b} {w : World} {R R' : Int → World → Prop} (h : seg_SendBuf_Nxt.Call b w R) (hr : ∀ r w', R r w' → R' r w') : seg_SendBuf_Nxt.Call b w R' :=
  Calls.mono h fun e w' he => by
    obtain ⟨r, h1, h2⟩ := he
    exact ⟨r, h1, hr r w' h2⟩
def seg_SendBuf_Nxt.RV (R : Int → World → Prop) (v : Value) (w : World) : Prop := match v with
  | .int .i64 r => R r w
  | _ => False
theorem seg_SendBuf_Nxt.RV_elim {R : Int → World → Prop} {v : Value} {w : World} (h : seg_SendBuf_Nxt.RV R v w) : ∃ r, Ending.returned v = .returned (.int .i64 r) ∧ R r w := by
  unfold seg_SendBuf_Nxt.RV at h
  split at h
  · exact ⟨_, rfl, h⟩
  · exact h.elim
/-- (*e2e/segm.SendBuf).Nxt -/
def segm_SendBuf_Nxt.Call (b : Option Addr) (w : World) (R : Int → World → Prop) : Prop :=
  Calls Try.prog 24 #[.pointer b] w fun e w' => ∃ r, e = .returned (.int .i64 r) ∧ R r w'
theorem segm_SendBuf_Nxt.Call.mono {b} {w : World} {R R' : Int → World → Prop} (h : segm_SendBuf_Nxt.Call b w R) (hr : ∀ r w', R r w' → R' r w') : segm_SendBuf_Nxt.Call b w R' :=
  Calls.mono h fun e w' he => by
    obtain ⟨r, h1, h2⟩ := he
    exact ⟨r, h1, hr r w' h2⟩
def segm_SendBuf_Nxt.RV (R : Int → World → Prop) (v : Value) (w : World) : Prop := match v with
  | .int .i64 r => R r w
  | _ => False
theorem segm_SendBuf_Nxt.RV_elim {R : Int → World → Prop} {v : Value} {w : World} (h : segm_SendBuf_Nxt.RV R v w) : ∃ r, Ending.returned v = .returned (.int .i64 r) ∧ R r w := by
  unfold segm_SendBuf_Nxt.RV at h
  split at h
  · exact ⟨_, rfl, h⟩
  · exact h.elim
/-- (*e2e/seg.SendBuf).Len -/
def seg_SendBuf_Len.Call (b : Option Addr) (w : World) (R : Int → World → Prop) : Prop :=
  Calls Try.prog 25 #[.pointer b] w fun e w' => ∃ r, e = .returned (.int .i64 r) ∧ R r w'
theorem seg_SendBuf_Len.Call.mono {b} {w : World} {R R' : Int → World → Prop} (h : seg_SendBuf_Len.Call b w R) (hr : ∀ r w', R r w' → R' r w') : seg_SendBuf_Len.Call b w R' :=
  Calls.mono h fun e w' he => by
    obtain ⟨r, h1, h2⟩ := he
    exact ⟨r, h1, hr r w' h2⟩
def seg_SendBuf_Len.RV (R : Int → World → Prop) (v : Value) (w : World) : Prop := match v with
  | .int .i64 r => R r w
  | _ => False
theorem seg_SendBuf_Len.RV_elim {R : Int → World → Prop} {v : Value} {w : World} (h : seg_SendBuf_Len.RV R v w) : ∃ r, Ending.returned v = .returned (.int .i64 r) ∧ R r w := by
  unfold seg_SendBuf_Len.RV at h
  split at h
  · exact ⟨_, rfl, h⟩
  · exact h.elim
/-- (*e2e/segm.SendBuf).Len -/
def segm_SendBuf_Len.Call (b : Option Addr) (w : World) (R : Int → World → Prop) : Prop :=
  Calls Try.prog 26 #[.pointer b] w fun e w' => ∃ r, e = .returned (.int .i64 r) ∧ R r w'
theorem segm_SendBuf_Len.Call.mono {b} {w : World} {R R' : Int → World → Prop} (h : segm_SendBuf_Len.Call b w R) (hr : ∀ r w', R r w' → R' r w') : segm_SendBuf_Len.Call b w R' :=
  Calls.mono h fun e w' he => by
    obtain ⟨r, h1, h2⟩ := he
    exact ⟨r, h1, hr r w' h2⟩
def segm_SendBuf_Len.RV (R : Int → World → Prop) (v : Value) (w : World) : Prop := match v with
  | .int .i64 r => R r w
  | _ => False
theorem segm_SendBuf_Len.RV_elim {R : Int → World → Prop} {v : Value} {w : World} (h : segm_SendBuf_Len.RV R v w) : ∃ r, Ending.returned v = .returned (.int .i64 r) ∧ R r w := by
  unfold segm_SendBuf_Len.RV at h
  split at h
  · exact ⟨_, rfl, h⟩
  · exact h.elim
/-- (*e2e/seg.SendBuf).Unsent -/
def seg_SendBuf_Unsent.Call (b : Option Addr) (w : World) (R : Int → World → Prop) : Prop :=
  Calls Try.prog 27 #[.pointer b] w fun e w' => ∃ r, e = .returned (.int .i64 r) ∧ R r w'
theorem seg_SendBuf_Unsent.Call.mono {b} {w : World} {R R' : Int → World → Prop} (h : seg_SendBuf_Unsent.Call b w R) (hr : ∀ r w', R r w' → R' r w') : seg_SendBuf_Unsent.Call b w R' :=
  Calls.mono h fun e w' he => by
    obtain ⟨r, h1, h2⟩ := he
    exact ⟨r, h1, hr r w' h2⟩
def seg_SendBuf_Unsent.RV (R : Int → World → Prop) (v : Value) (w : World) : Prop := match v with
  | .int .i64 r => R r w
  | _ => False
theorem seg_SendBuf_Unsent.RV_elim {R : Int → World → Prop} {v : Value} {w : World} (h : seg_SendBuf_Unsent.RV R v w) : ∃ r, Ending.returned v = .returned (.int .i64 r) ∧ R r w := by
  unfold seg_SendBuf_Unsent.RV at h
  split at h
  · exact ⟨_, rfl, h⟩
  · exact h.elim
/-- (*e2e/segm.SendBuf).Unsent -/
def segm_SendBuf_Unsent.Call (b : Option Addr) (w : World) (R : Int → World → Prop) : Prop :=
  Calls Try.prog 28 #[.pointer b] w fun e w' => ∃ r, e = .returned (.int .i64 r) ∧ R r w'
theorem segm_SendBuf_Unsent.Call.mono {b} {w : World} {R R' : Int → World → Prop} (h : segm_SendBuf_Unsent.Call b w R) (hr : ∀ r w', R r w' → R' r w') : segm_SendBuf_Unsent.Call b w R' :=
  Calls.mono h fun e w' he => by
    obtain ⟨r, h1, h2⟩ := he
    exact ⟨r, h1, hr r w' h2⟩
def segm_SendBuf_Unsent.RV (R : Int → World → Prop) (v : Value) (w : World) : Prop := match v with
  | .int .i64 r => R r w
  | _ => False
theorem segm_SendBuf_Unsent.RV_elim {R : Int → World → Prop} {v : Value} {w : World} (h : segm_SendBuf_Unsent.RV R v w) : ∃ r, Ending.returned v = .returned (.int .i64 r) ∧ R r w := by
  unfold segm_SendBuf_Unsent.RV at h
  split at h
  · exact ⟨_, rfl, h⟩
  · exact h.elim
/-- (*e2e/seg.SendBuf).Bytes -/
def seg_SendBuf_Bytes.Call (b : Option Addr) (w : World) (R : Option Addr → Nat → Nat → World → Prop) : Prop :=
  Calls Try.prog 29 #[.pointer b] w fun e w' => ∃ r_b r_l r_c, e = .returned (.slice r_b r_l r_c) ∧ R r_b r_l r_c w'
theorem seg_SendBuf_Bytes.Call.mono {b} {w : World} {R R' : Option Addr → Nat → Nat → World → Prop} (h : seg_SendBuf_Bytes.Call b w R) (hr : ∀ r_b r_l r_c w', R r_b r_l r_c w' → R' r_b r_l r_c w') : seg_SendBuf_Bytes.Call b w R' :=
  Calls.mono h fun e w' he => by
    obtain ⟨r_b, r_l, r_c, h1, h2⟩ := he
    exact ⟨r_b, r_l, r_c, h1, hr r_b r_l r_c w' h2⟩
def seg_SendBuf_Bytes.RV (R : Option Addr → Nat → Nat → World → Prop) (v : Value) (w : World) : Prop := match v with
  | .slice r_b r_l r_c => R r_b r_l r_c w
  | _ => False
theorem seg_SendBuf_Bytes.RV_elim {R : Option Addr → Nat → Nat → World → Prop} {v : Value} {w : World} (h : seg_SendBuf_Bytes.RV R v w) : ∃ r_b r_l r_c, Ending.returned v = .returned (.slice r_b r_l r_c) ∧ R r_b r_l r_c w := by
  unfold seg_SendBuf_Bytes.RV at h
  split at h
  · exact ⟨_, _, _, rfl, h⟩
  · exact h.elim
/-- (*e2e/segm.SendBuf).Bytes -/
def segm_SendBuf_Bytes.Call (b : Option Addr) (w : World) (R : Option Addr → Nat → Nat → World → Prop) : Prop :=
  Calls Try.prog 30 #[.pointer b] w fun e w' => ∃ r_b r_l r_c, e = .returned (.slice r_b r_l r_c) ∧ R r_b r_l r_c w'
theorem segm_SendBuf_Bytes.Call.mono {b} {w : World} {R R' : Option Addr → Nat → Nat → World → Prop} (h : segm_SendBuf_Bytes.Call b w R) (hr : ∀ r_b r_l r_c w', R r_b r_l r_c w' → R' r_b r_l r_c w') : segm_SendBuf_Bytes.Call b w R' :=
  Calls.mono h fun e w' he => by
    obtain ⟨r_b, r_l, r_c, h1, h2⟩ := he
    exact ⟨r_b, r_l, r_c, h1, hr r_b r_l r_c w' h2⟩
def segm_SendBuf_Bytes.RV (R : Option Addr → Nat → Nat → World → Prop) (v : Value) (w : World) : Prop := match v with
  | .slice r_b r_l r_c => R r_b r_l r_c w
  | _ => False
theorem segm_SendBuf_Bytes.RV_elim {R : Option Addr → Nat → Nat → World → Prop} {v : Value} {w : World} (h : segm_SendBuf_Bytes.RV R v w) : ∃ r_b r_l r_c, Ending.returned v = .returned (.slice r_b r_l r_c) ∧ R r_b r_l r_c w := by
  unfold segm_SendBuf_Bytes.RV at h
  split at h
  · exact ⟨_, _, _, rfl, h⟩
  · exact h.elim
/-- e2e/api.SameBytes -/
def api_SameBytes.Call (a_b : Option Addr) (a_l a_c : Nat) (b_b : Option Addr) (b_l b_c : Nat) (w : World) (R : Bool → World → Prop) : Prop :=
  Calls Try.prog 31 #[.slice a_b a_l a_c, .slice b_b b_l b_c] w fun e w' => ∃ r, e = .returned (.bool r) ∧ R r w'
theorem api_SameBytes.Call.mono {a_b a_l a_c b_b b_l b_c} {w : World} {R R' : Bool → World → Prop} (h : api_SameBytes.Call a_b a_l a_c b_b b_l b_c w R) (hr : ∀ r w', R r w' → R' r w') : api_SameBytes.Call a_b a_l a_c b_b b_l b_c w R' :=
  Calls.mono h fun e w' he => by
    obtain ⟨r, h1, h2⟩ := he
    exact ⟨r, h1, hr r w' h2⟩
def api_SameBytes.RV (R : Bool → World → Prop) (v : Value) (w : World) : Prop := match v with
  | .bool r => R r w
  | _ => False
theorem api_SameBytes.RV_elim {R : Bool → World → Prop} {v : Value} {w : World} (h : api_SameBytes.RV R v w) : ∃ r, Ending.returned v = .returned (.bool r) ∧ R r w := by
  unfold api_SameBytes.RV at h
  split at h
  · exact ⟨_, rfl, h⟩
  · exact h.elim
/-- (*e2e/seglaw.World).Own -/
def seglaw_World_Own.Call (w0 b_b : Option Addr) (b_l b_c : Nat) (w : World) (R : World → Prop) : Prop :=
  Calls Try.prog 32 #[.pointer w0, .slice b_b b_l b_c] w fun e w' => e = .returned (.tuple #[]) ∧ R w'
theorem seglaw_World_Own.Call.mono {w0 b_b b_l b_c} {w : World} {R R' : World → Prop} (h : seglaw_World_Own.Call w0 b_b b_l b_c w R) (hr : ∀ w', R w' → R'  w') : seglaw_World_Own.Call w0 b_b b_l b_c w R' :=
  Calls.mono h fun e w' he => by
    obtain ⟨h1, h2⟩ := he
    exact ⟨h1, hr  w' h2⟩
def seglaw_World_Own.RV (R : World → Prop) (v : Value) (w : World) : Prop := match v with
  | .tuple ⟨[]⟩ => R w
  | _ => False
theorem seglaw_World_Own.RV_elim {R : World → Prop} {v : Value} {w : World} (h : seglaw_World_Own.RV R v w) : Ending.returned v = .returned (.tuple #[]) ∧ R w := by
  unfold seglaw_World_Own.RV at h
  split at h
  · exact ⟨rfl, h⟩
  · exact h.elim
/-- (*e2e/seg.RecvBuf).Nxt -/
def seg_RecvBuf_Nxt.Call (b : Option Addr) (w : World) (R : Int → World → Prop) : Prop :=
  Calls Try.prog 33 #[.pointer b] w fun e w' => ∃ r, e = .returned (.int .i64 r) ∧ R r w'
theorem seg_RecvBuf_Nxt.Call.mono {b} {w : World} {R R' : Int → World → Prop} (h : seg_RecvBuf_Nxt.Call b w R) (hr : ∀ r w', R r w' → R' r w') : seg_RecvBuf_Nxt.Call b w R' :=
  Calls.mono h fun e w' he => by
    obtain ⟨r, h1, h2⟩ := he
    exact ⟨r, h1, hr r w' h2⟩
def seg_RecvBuf_Nxt.RV (R : Int → World → Prop) (v : Value) (w : World) : Prop := match v with
  | .int .i64 r => R r w
  | _ => False
theorem seg_RecvBuf_Nxt.RV_elim {R : Int → World → Prop} {v : Value} {w : World} (h : seg_RecvBuf_Nxt.RV R v w) : ∃ r, Ending.returned v = .returned (.int .i64 r) ∧ R r w := by
  unfold seg_RecvBuf_Nxt.RV at h
  split at h
  · exact ⟨_, rfl, h⟩
  · exact h.elim
/-- (*e2e/segm.RecvBuf).Nxt -/
def segm_RecvBuf_Nxt.Call (b : Option Addr) (w : World) (R : Int → World → Prop) : Prop :=
  Calls Try.prog 34 #[.pointer b] w fun e w' => ∃ r, e = .returned (.int .i64 r) ∧ R r w'
theorem segm_RecvBuf_Nxt.Call.mono {b} {w : World} {R R' : Int → World → Prop} (h : segm_RecvBuf_Nxt.Call b w R) (hr : ∀ r w', R r w' → R' r w') : segm_RecvBuf_Nxt.Call b w R' :=
  Calls.mono h fun e w' he => by
    obtain ⟨r, h1, h2⟩ := he
    exact ⟨r, h1, hr r w' h2⟩
def segm_RecvBuf_Nxt.RV (R : Int → World → Prop) (v : Value) (w : World) : Prop := match v with
  | .int .i64 r => R r w
  | _ => False
theorem segm_RecvBuf_Nxt.RV_elim {R : Int → World → Prop} {v : Value} {w : World} (h : segm_RecvBuf_Nxt.RV R v w) : ∃ r, Ending.returned v = .returned (.int .i64 r) ∧ R r w := by
  unfold segm_RecvBuf_Nxt.RV at h
  split at h
  · exact ⟨_, rfl, h⟩
  · exact h.elim
/-- (*e2e/seg.RecvBuf).Avail -/
def seg_RecvBuf_Avail.Call (b : Option Addr) (w : World) (R : Int → World → Prop) : Prop :=
  Calls Try.prog 35 #[.pointer b] w fun e w' => ∃ r, e = .returned (.int .i64 r) ∧ R r w'
theorem seg_RecvBuf_Avail.Call.mono {b} {w : World} {R R' : Int → World → Prop} (h : seg_RecvBuf_Avail.Call b w R) (hr : ∀ r w', R r w' → R' r w') : seg_RecvBuf_Avail.Call b w R' :=
  Calls.mono h fun e w' he => by
    obtain ⟨r, h1, h2⟩ := he
    exact ⟨r, h1, hr r w' h2⟩
def seg_RecvBuf_Avail.RV (R : Int → World → Prop) (v : Value) (w : World) : Prop := match v with
  | .int .i64 r => R r w
  | _ => False
theorem seg_RecvBuf_Avail.RV_elim {R : Int → World → Prop} {v : Value} {w : World} (h : seg_RecvBuf_Avail.RV R v w) : ∃ r, Ending.returned v = .returned (.int .i64 r) ∧ R r w := by
  unfold seg_RecvBuf_Avail.RV at h
  split at h
  · exact ⟨_, rfl, h⟩
  · exact h.elim
/-- (*e2e/segm.RecvBuf).Avail -/
def segm_RecvBuf_Avail.Call (b : Option Addr) (w : World) (R : Int → World → Prop) : Prop :=
  Calls Try.prog 36 #[.pointer b] w fun e w' => ∃ r, e = .returned (.int .i64 r) ∧ R r w'
theorem segm_RecvBuf_Avail.Call.mono {b} {w : World} {R R' : Int → World → Prop} (h : segm_RecvBuf_Avail.Call b w R) (hr : ∀ r w', R r w' → R' r w') : segm_RecvBuf_Avail.Call b w R' :=
  Calls.mono h fun e w' he => by
    obtain ⟨r, h1, h2⟩ := he
    exact ⟨r, h1, hr r w' h2⟩
def segm_RecvBuf_Avail.RV (R : Int → World → Prop) (v : Value) (w : World) : Prop := match v with
  | .int .i64 r => R r w
  | _ => False
theorem segm_RecvBuf_Avail.RV_elim {R : Int → World → Prop} {v : Value} {w : World} (h : segm_RecvBuf_Avail.RV R v w) : ∃ r, Ending.returned v = .returned (.int .i64 r) ∧ R r w := by
  unfold segm_RecvBuf_Avail.RV at h
  split at h
  · exact ⟨_, rfl, h⟩
  · exact h.elim
/-- (*e2e/seg.RecvBuf).Window -/
def seg_RecvBuf_Window.Call (b : Option Addr) (w : World) (R : Int → World → Prop) : Prop :=
  Calls Try.prog 37 #[.pointer b] w fun e w' => ∃ r, e = .returned (.int .i64 r) ∧ R r w'
theorem seg_RecvBuf_Window.Call.mono {b} {w : World} {R R' : Int → World → Prop} (h : seg_RecvBuf_Window.Call b w R) (hr : ∀ r w', R r w' → R' r w') : seg_RecvBuf_Window.Call b w R' :=
  Calls.mono h fun e w' he => by
    obtain ⟨r, h1, h2⟩ := he
    exact ⟨r, h1, hr r w' h2⟩
def seg_RecvBuf_Window.RV (R : Int → World → Prop) (v : Value) (w : World) : Prop := match v with
  | .int .i64 r => R r w
  | _ => False
theorem seg_RecvBuf_Window.RV_elim {R : Int → World → Prop} {v : Value} {w : World} (h : seg_RecvBuf_Window.RV R v w) : ∃ r, Ending.returned v = .returned (.int .i64 r) ∧ R r w := by
  unfold seg_RecvBuf_Window.RV at h
  split at h
  · exact ⟨_, rfl, h⟩
  · exact h.elim
/-- (*e2e/segm.RecvBuf).Window -/
def segm_RecvBuf_Window.Call (b : Option Addr) (w : World) (R : Int → World → Prop) : Prop :=
  Calls Try.prog 38 #[.pointer b] w fun e w' => ∃ r, e = .returned (.int .i64 r) ∧ R r w'
theorem segm_RecvBuf_Window.Call.mono {b} {w : World} {R R' : Int → World → Prop} (h : segm_RecvBuf_Window.Call b w R) (hr : ∀ r w', R r w' → R' r w') : segm_RecvBuf_Window.Call b w R' :=
  Calls.mono h fun e w' he => by
    obtain ⟨r, h1, h2⟩ := he
    exact ⟨r, h1, hr r w' h2⟩
def segm_RecvBuf_Window.RV (R : Int → World → Prop) (v : Value) (w : World) : Prop := match v with
  | .int .i64 r => R r w
  | _ => False
theorem segm_RecvBuf_Window.RV_elim {R : Int → World → Prop} {v : Value} {w : World} (h : segm_RecvBuf_Window.RV R v w) : ∃ r, Ending.returned v = .returned (.int .i64 r) ∧ R r w := by
  unfold segm_RecvBuf_Window.RV at h
  split at h
  · exact ⟨_, rfl, h⟩
  · exact h.elim
/-- (*e2e/seg.RecvBuf).Held -/
def seg_RecvBuf_Held.Call (b : Option Addr) (w : World) (R : Int → World → Prop) : Prop :=
  Calls Try.prog 39 #[.pointer b] w fun e w' => ∃ r, e = .returned (.int .i64 r) ∧ R r w'
theorem seg_RecvBuf_Held.Call.mono {b} {w : World} {R R' : Int → World → Prop} (h : seg_RecvBuf_Held.Call b w R) (hr : ∀ r w', R r w' → R' r w') : seg_RecvBuf_Held.Call b w R' :=
  Calls.mono h fun e w' he => by
    obtain ⟨r, h1, h2⟩ := he
    exact ⟨r, h1, hr r w' h2⟩
def seg_RecvBuf_Held.RV (R : Int → World → Prop) (v : Value) (w : World) : Prop := match v with
  | .int .i64 r => R r w
  | _ => False
theorem seg_RecvBuf_Held.RV_elim {R : Int → World → Prop} {v : Value} {w : World} (h : seg_RecvBuf_Held.RV R v w) : ∃ r, Ending.returned v = .returned (.int .i64 r) ∧ R r w := by
  unfold seg_RecvBuf_Held.RV at h
  split at h
  · exact ⟨_, rfl, h⟩
  · exact h.elim
/-- (*e2e/segm.RecvBuf).Held -/
def segm_RecvBuf_Held.Call (b : Option Addr) (w : World) (R : Int → World → Prop) : Prop :=
  Calls Try.prog 40 #[.pointer b] w fun e w' => ∃ r, e = .returned (.int .i64 r) ∧ R r w'
theorem segm_RecvBuf_Held.Call.mono {b} {w : World} {R R' : Int → World → Prop} (h : segm_RecvBuf_Held.Call b w R) (hr : ∀ r w', R r w' → R' r w') : segm_RecvBuf_Held.Call b w R' :=
  Calls.mono h fun e w' he => by
    obtain ⟨r, h1, h2⟩ := he
    exact ⟨r, h1, hr r w' h2⟩
def segm_RecvBuf_Held.RV (R : Int → World → Prop) (v : Value) (w : World) : Prop := match v with
  | .int .i64 r => R r w
  | _ => False
theorem segm_RecvBuf_Held.RV_elim {R : Int → World → Prop} {v : Value} {w : World} (h : segm_RecvBuf_Held.RV R v w) : ∃ r, Ending.returned v = .returned (.int .i64 r) ∧ R r w := by
  unfold segm_RecvBuf_Held.RV at h
  split at h
  · exact ⟨_, rfl, h⟩
  · exact h.elim
/-- (*e2e/seg.RecvBuf).Bytes -/
def seg_RecvBuf_Bytes.Call (b : Option Addr) (w : World) (R : Option Addr → Nat → Nat → World → Prop) : Prop :=
  Calls Try.prog 41 #[.pointer b] w fun e w' => ∃ r_b r_l r_c, e = .returned (.slice r_b r_l r_c) ∧ R r_b r_l r_c w'
theorem seg_RecvBuf_Bytes.Call.mono {b} {w : World} {R R' : Option Addr → Nat → Nat → World → Prop} (h : seg_RecvBuf_Bytes.Call b w R) (hr : ∀ r_b r_l r_c w', R r_b r_l r_c w' → R' r_b r_l r_c w') : seg_RecvBuf_Bytes.Call b w R' :=
  Calls.mono h fun e w' he => by
    obtain ⟨r_b, r_l, r_c, h1, h2⟩ := he
    exact ⟨r_b, r_l, r_c, h1, hr r_b r_l r_c w' h2⟩
def seg_RecvBuf_Bytes.RV (R : Option Addr → Nat → Nat → World → Prop) (v : Value) (w : World) : Prop := match v with
  | .slice r_b r_l r_c => R r_b r_l r_c w
  | _ => False
theorem seg_RecvBuf_Bytes.RV_elim {R : Option Addr → Nat → Nat → World → Prop} {v : Value} {w : World} (h : seg_RecvBuf_Bytes.RV R v w) : ∃ r_b r_l r_c, Ending.returned v = .returned (.slice r_b r_l r_c) ∧ R r_b r_l r_c w := by
  unfold seg_RecvBuf_Bytes.RV at h
  split at h
  · exact ⟨_, _, _, rfl, h⟩
  · exact h.elim
/-- (*e2e/segm.RecvBuf).Bytes -/
def segm_RecvBuf_Bytes.Call (b : Option Addr) (w : World) (R : Option Addr → Nat → Nat → World → Prop) : Prop :=
  Calls Try.prog 42 #[.pointer b] w fun e w' => ∃ r_b r_l r_c, e = .returned (.slice r_b r_l r_c) ∧ R r_b r_l r_c w'
theorem segm_RecvBuf_Bytes.Call.mono {b} {w : World} {R R' : Option Addr → Nat → Nat → World → Prop} (h : segm_RecvBuf_Bytes.Call b w R) (hr : ∀ r_b r_l r_c w', R r_b r_l r_c w' → R' r_b r_l r_c w') : segm_RecvBuf_Bytes.Call b w R' :=
  Calls.mono h fun e w' he => by
    obtain ⟨r_b, r_l, r_c, h1, h2⟩ := he
    exact ⟨r_b, r_l, r_c, h1, hr r_b r_l r_c w' h2⟩
def segm_RecvBuf_Bytes.RV (R : Option Addr → Nat → Nat → World → Prop) (v : Value) (w : World) : Prop := match v with
  | .slice r_b r_l r_c => R r_b r_l r_c w
  | _ => False
theorem segm_RecvBuf_Bytes.RV_elim {R : Option Addr → Nat → Nat → World → Prop} {v : Value} {w : World} (h : segm_RecvBuf_Bytes.RV R v w) : ∃ r_b r_l r_c, Ending.returned v = .returned (.slice r_b r_l r_c) ∧ R r_b r_l r_c w := by
  unfold segm_RecvBuf_Bytes.RV at h
  split at h
  · exact ⟨_, _, _, rfl, h⟩
  · exact h.elim
/-- (*e2e/seg.RecvBuf).Ahead -/
def seg_RecvBuf_Ahead.Call (b : Option Addr) (w : World) (R : Option Addr → Nat → Nat → World → Prop) : Prop :=
  Calls Try.prog 43 #[.pointer b] w fun e w' => ∃ r_b r_l r_c, e = .returned (.slice r_b r_l r_c) ∧ R r_b r_l r_c w'
theorem seg_RecvBuf_Ahead.Call.mono {b} {w : World} {R R' : Option Addr → Nat → Nat → World → Prop} (h : seg_RecvBuf_Ahead.Call b w R) (hr : ∀ r_b r_l r_c w', R r_b r_l r_c w' → R' r_b r_l r_c w') : seg_RecvBuf_Ahead.Call b w R' :=
  Calls.mono h fun e w' he => by
    obtain ⟨r_b, r_l, r_c, h1, h2⟩ := he
    exact ⟨r_b, r_l, r_c, h1, hr r_b r_l r_c w' h2⟩
def seg_RecvBuf_Ahead.RV (R : Option Addr → Nat → Nat → World → Prop) (v : Value) (w : World) : Prop := match v with
  | .slice r_b r_l r_c => R r_b r_l r_c w
  | _ => False
theorem seg_RecvBuf_Ahead.RV_elim {R : Option Addr → Nat → Nat → World → Prop} {v : Value} {w : World} (h : seg_RecvBuf_Ahead.RV R v w) : ∃ r_b r_l r_c, Ending.returned v = .returned (.slice r_b r_l r_c) ∧ R r_b r_l r_c w := by
  unfold seg_RecvBuf_Ahead.RV at h
  split at h
  · exact ⟨_, _, _, rfl, h⟩
  · exact h.elim
/-- (*e2e/segm.RecvBuf).Ahead -/
def segm_RecvBuf_Ahead.Call (b : Option Addr) (w : World) (R : Option Addr → Nat → Nat → World → Prop) : Prop :=
  Calls Try.prog 44 #[.pointer b] w fun e w' => ∃ r_b r_l r_c, e = .returned (.slice r_b r_l r_c) ∧ R r_b r_l r_c w'
theorem segm_RecvBuf_Ahead.Call.mono {b} {w : World} {R R' : Option Addr → Nat → Nat → World → Prop} (h : segm_RecvBuf_Ahead.Call b w R) (hr : ∀ r_b r_l r_c w', R r_b r_l r_c w' → R' r_b r_l r_c w') : segm_RecvBuf_Ahead.Call b w R' :=
  Calls.mono h fun e w' he => by
    obtain ⟨r_b, r_l, r_c, h1, h2⟩ := he
    exact ⟨r_b, r_l, r_c, h1, hr r_b r_l r_c w' h2⟩
def segm_RecvBuf_Ahead.RV (R : Option Addr → Nat → Nat → World → Prop) (v : Value) (w : World) : Prop := match v with
  | .slice r_b r_l r_c => R r_b r_l r_c w
  | _ => False
theorem segm_RecvBuf_Ahead.RV_elim {R : Option Addr → Nat → Nat → World → Prop} {v : Value} {w : World} (h : segm_RecvBuf_Ahead.RV R v w) : ∃ r_b r_l r_c, Ending.returned v = .returned (.slice r_b r_l r_c) ∧ R r_b r_l r_c w := by
  unfold segm_RecvBuf_Ahead.RV at h
  split at h
  · exact ⟨_, _, _, rfl, h⟩
  · exact h.elim
/-- e2e/seglaw.SameInts -/
def seglaw_SameInts.Call (a_b : Option Addr) (a_l a_c : Nat) (b_b : Option Addr) (b_l b_c : Nat) (w : World) (R : Bool → World → Prop) : Prop :=
  Calls Try.prog 45 #[.slice a_b a_l a_c, .slice b_b b_l b_c] w fun e w' => ∃ r, e = .returned (.bool r) ∧ R r w'
theorem seglaw_SameInts.Call.mono {a_b a_l a_c b_b b_l b_c} {w : World} {R R' : Bool → World → Prop} (h : seglaw_SameInts.Call a_b a_l a_c b_b b_l b_c w R) (hr : ∀ r w', R r w' → R' r w') : seglaw_SameInts.Call a_b a_l a_c b_b b_l b_c w R' :=
  Calls.mono h fun e w' he => by
    obtain ⟨r, h1, h2⟩ := he
    exact ⟨r, h1, hr r w' h2⟩
def seglaw_SameInts.RV (R : Bool → World → Prop) (v : Value) (w : World) : Prop := match v with
  | .bool r => R r w
  | _ => False
theorem seglaw_SameInts.RV_elim {R : Bool → World → Prop} {v : Value} {w : World} (h : seglaw_SameInts.RV R v w) : ∃ r, Ending.returned v = .returned (.bool r) ∧ R r w := by
  unfold seglaw_SameInts.RV at h
  split at h
  · exact ⟨_, rfl, h⟩
  · exact h.elim
/-- (*e2e/seglaw.World).OwnInts -/
def seglaw_World_OwnInts.Call (w0 l_b : Option Addr) (l_l l_c : Nat) (w : World) (R : World → Prop) : Prop :=
  Calls Try.prog 46 #[.pointer w0, .slice l_b l_l l_c] w fun e w' => e = .returned (.tuple #[]) ∧ R w'
theorem seglaw_World_OwnInts.Call.mono {w0 l_b l_l l_c} {w : World} {R R' : World → Prop} (h : seglaw_World_OwnInts.Call w0 l_b l_l l_c w R) (hr : ∀ w', R w' → R'  w') : seglaw_World_OwnInts.Call w0 l_b l_l l_c w R' :=
  Calls.mono h fun e w' he => by
    obtain ⟨h1, h2⟩ := he
    exact ⟨h1, hr  w' h2⟩
def seglaw_World_OwnInts.RV (R : World → Prop) (v : Value) (w : World) : Prop := match v with
  | .tuple ⟨[]⟩ => R w
  | _ => False
theorem seglaw_World_OwnInts.RV_elim {R : World → Prop} {v : Value} {w : World} (h : seglaw_World_OwnInts.RV R v w) : Ending.returned v = .returned (.tuple #[]) ∧ R w := by
  unfold seglaw_World_OwnInts.RV at h
  split at h
  · exact ⟨rfl, h⟩
  · exact h.elim
/-- (*e2e/seg.SendBuf).Check -/
def seg_SendBuf_Check.Call (b : Option Addr) (w : World) (R : Bool → World → Prop) : Prop :=
  Calls Try.prog 47 #[.pointer b] w fun e w' => ∃ r, e = .returned (.bool r) ∧ R r w'
theorem seg_SendBuf_Check.Call.mono {b} {w : World} {R R' : Bool → World → Prop} (h : seg_SendBuf_Check.Call b w R) (hr : ∀ r w', R r w' → R' r w') : seg_SendBuf_Check.Call b w R' :=
  Calls.mono h fun e w' he => by
    obtain ⟨r, h1, h2⟩ := he
    exact ⟨r, h1, hr r w' h2⟩
def seg_SendBuf_Check.RV (R : Bool → World → Prop) (v : Value) (w : World) : Prop := match v with
  | .bool r => R r w
  | _ => False
theorem seg_SendBuf_Check.RV_elim {R : Bool → World → Prop} {v : Value} {w : World} (h : seg_SendBuf_Check.RV R v w) : ∃ r, Ending.returned v = .returned (.bool r) ∧ R r w := by
  unfold seg_SendBuf_Check.RV at h
  split at h
  · exact ⟨_, rfl, h⟩
  · exact h.elim
/-- (*e2e/seg.RecvBuf).Check -/
def seg_RecvBuf_Check.Call (b : Option Addr) (w : World) (R : Bool → World → Prop) : Prop :=
  Calls Try.prog 48 #[.pointer b] w fun e w' => ∃ r, e = .returned (.bool r) ∧ R r w'
theorem seg_RecvBuf_Check.Call.mono {b} {w : World} {R R' : Bool → World → Prop} (h : seg_RecvBuf_Check.Call b w R) (hr : ∀ r w', R r w' → R' r w') : seg_RecvBuf_Check.Call b w R' :=
  Calls.mono h fun e w' he => by
    obtain ⟨r, h1, h2⟩ := he
    exact ⟨r, h1, hr r w' h2⟩
def seg_RecvBuf_Check.RV (R : Bool → World → Prop) (v : Value) (w : World) : Prop := match v with
  | .bool r => R r w
  | _ => False
theorem seg_RecvBuf_Check.RV_elim {R : Bool → World → Prop} {v : Value} {w : World} (h : seg_RecvBuf_Check.RV R v w) : ∃ r, Ending.returned v = .returned (.bool r) ∧ R r w := by
  unfold seg_RecvBuf_Check.RV at h
  split at h
  · exact ⟨_, rfl, h⟩
  · exact h.elim
/-- (*e2e/seg.SendBuf).Again -/
def seg_SendBuf_Again.Call (b : Option Addr) (max : Int) (w : World) (R : Int → Option Addr → Nat → Nat → World → Prop) : Prop :=
  Calls Try.prog 49 #[.pointer b, .int .i64 max] w fun e w' => ∃ r0 r1_b r1_l r1_c, e = .returned (.tuple #[.int .i64 r0, .slice r1_b r1_l r1_c]) ∧ R r0 r1_b r1_l r1_c w'
theorem seg_SendBuf_Again.Call.mono {b max} {w : World} {R R' : Int → Option Addr → Nat → Nat → World → Prop} (h : seg_SendBuf_Again.Call b max w R) (hr : ∀ r0 r1_b r1_l r1_c w', R r0 r1_b r1_l r1_c w' → R' r0 r1_b r1_l r1_c w') : seg_SendBuf_Again.Call b max w R' :=
  Calls.mono h fun e w' he => by
    obtain ⟨r0, r1_b, r1_l, r1_c, h1, h2⟩ := he
    exact ⟨r0, r1_b, r1_l, r1_c, h1, hr r0 r1_b r1_l r1_c w' h2⟩
def seg_SendBuf_Again.RV (R : Int → Option Addr → Nat → Nat → World → Prop) (v : Value) (w : World) : Prop := match v with
  | .tuple ⟨[.int .i64 r0, .slice r1_b r1_l r1_c]⟩ => R r0 r1_b r1_l r1_c w
  | _ => False
theorem seg_SendBuf_Again.RV_elim {R : Int → Option Addr → Nat → Nat → World → Prop} {v : Value} {w : World} (h : seg_SendBuf_Again.RV R v w) : ∃ r0 r1_b r1_l r1_c, Ending.returned v = .returned (.tuple #[.int .i64 r0, .slice r1_b r1_l r1_c]) ∧ R r0 r1_b r1_l r1_c w := by
  unfold seg_SendBuf_Again.RV at h
  split at h
  · exact ⟨_, _, _, _, rfl, h⟩
  · exact h.elim
/-- (*e2e/segm.SendBuf).Again -/
def segm_SendBuf_Again.Call (b : Option Addr) (max : Int) (w : World) (R : Int → Option Addr → Nat → Nat → World → Prop) : Prop :=
  Calls Try.prog 50 #[.pointer b, .int .i64 max] w fun e w' => ∃ r0 r1_b r1_l r1_c, e = .returned (.tuple #[.int .i64 r0, .slice r1_b r1_l r1_c]) ∧ R r0 r1_b r1_l r1_c w'
theorem segm_SendBuf_Again.Call.mono {b max} {w : World} {R R' : Int → Option Addr → Nat → Nat → World → Prop} (h : segm_SendBuf_Again.Call b max w R) (hr : ∀ r0 r1_b r1_l r1_c w', R r0 r1_b r1_l r1_c w' → R' r0 r1_b r1_l r1_c w') : segm_SendBuf_Again.Call b max w R' :=
  Calls.mono h fun e w' he => by
    obtain ⟨r0, r1_b, r1_l, r1_c, h1, h2⟩ := he
    exact ⟨r0, r1_b, r1_l, r1_c, h1, hr r0 r1_b r1_l r1_c w' h2⟩
def segm_SendBuf_Again.RV (R : Int → Option Addr → Nat → Nat → World → Prop) (v : Value) (w : World) : Prop := match v with
  | .tuple ⟨[.int .i64 r0, .slice r1_b r1_l r1_c]⟩ => R r0 r1_b r1_l r1_c w
  | _ => False
theorem segm_SendBuf_Again.RV_elim {R : Int → Option Addr → Nat → Nat → World → Prop} {v : Value} {w : World} (h : segm_SendBuf_Again.RV R v w) : ∃ r0 r1_b r1_l r1_c, Ending.returned v = .returned (.tuple #[.int .i64 r0, .slice r1_b r1_l r1_c]) ∧ R r0 r1_b r1_l r1_c w := by
  unfold segm_SendBuf_Again.RV at h
  split at h
  · exact ⟨_, _, _, _, rfl, h⟩
  · exact h.elim
/-- e2e/seg.Encode -/
def seg_Encode.Call (src dst s_0 s_1 s_2 s_3 s_4 s_5 : Int) (s_6_b : Option Addr) (s_6_l s_6_c : Nat) (w : World) (R : Option Addr → Nat → Nat → Int → World → Prop) : Prop :=
  Calls Try.prog 51 #[.int .i64 src, .int .i64 dst, .agg #[.int .i64 s_0, .int .i64 s_1, .int .i64 s_2, .int .i64 s_3, .int .i64 s_4, .int .i64 s_5, .slice s_6_b s_6_l s_6_c]] w fun e w' => ∃ r0_b r0_l r0_c r1, e = .returned (.tuple #[.slice r0_b r0_l r0_c, .int .i64 r1]) ∧ R r0_b r0_l r0_c r1 w'
theorem seg_Encode.Call.mono {src dst s_0 s_1 s_2 s_3 s_4 s_5 s_6_b s_6_l s_6_c} {w : World} {R R' : Option Addr → Nat → Nat → Int → World → Prop} (h : seg_Encode.Call src dst s_0 s_1 s_2 s_3 s_4 s_5 s_6_b s_6_l s_6_c w R) (hr : ∀ r0_b r0_l r0_c r1 w', R r0_b r0_l r0_c r1 w' → R' r0_b r0_l r0_c r1 w') : seg_Encode.Call src dst s_0 s_1 s_2 s_3 s_4 s_5 s_6_b s_6_l s_6_c w R' :=
  Calls.mono h fun e w' he => by
    obtain ⟨r0_b, r0_l, r0_c, r1, h1, h2⟩ := he
    exact ⟨r0_b, r0_l, r0_c, r1, h1, hr r0_b r0_l r0_c r1 w' h2⟩
def seg_Encode.RV (R : Option Addr → Nat → Nat → Int → World → Prop) (v : Value) (w : World) : Prop := match v with
  | .tuple ⟨[.slice r0_b r0_l r0_c, .int .i64 r1]⟩ => R r0_b r0_l r0_c r1 w
  | _ => False
theorem seg_Encode.RV_elim {R : Option Addr → Nat → Nat → Int → World → Prop} {v : Value} {w : World} (h : seg_Encode.RV R v w) : ∃ r0_b r0_l r0_c r1, Ending.returned v = .returned (.tuple #[.slice r0_b r0_l r0_c, .int .i64 r1]) ∧ R r0_b r0_l r0_c r1 w := by
  unfold seg_Encode.RV at h
  split at h
  · exact ⟨_, _, _, _, rfl, h⟩
  · exact h.elim
/-- e2e/segm.Encode -/
def segm_Encode.Call (src dst s_0 s_1 s_2 s_3 s_4 s_5 : Int) (s_6_b : Option Addr) (s_6_l s_6_c : Nat) (w : World) (R : Option Addr → Nat → Nat → Int → World → Prop) : Prop :=
  Calls Try.prog 52 #[.int .i64 src, .int .i64 dst, .agg #[.int .i64 s_0, .int .i64 s_1, .int .i64 s_2, .int .i64 s_3, .int .i64 s_4, .int .i64 s_5, .slice s_6_b s_6_l s_6_c]] w fun e w' => ∃ r0_b r0_l r0_c r1, e = .returned (.tuple #[.slice r0_b r0_l r0_c, .int .i64 r1]) ∧ R r0_b r0_l r0_c r1 w'
theorem segm_Encode.Call.mono {src dst s_0 s_1 s_2 s_3 s_4 s_5 s_6_b s_6_l s_6_c} {w : World} {R R' : Option Addr → Nat → Nat → Int → World → Prop} (h : segm_Encode.Call src dst s_0 s_1 s_2 s_3 s_4 s_5 s_6_b s_6_l s_6_c w R) (hr : ∀ r0_b r0_l r0_c r1 w', R r0_b r0_l r0_c r1 w' → R' r0_b r0_l r0_c r1 w') : segm_Encode.Call src dst s_0 s_1 s_2 s_3 s_4 s_5 s_6_b s_6_l s_6_c w R' :=
  Calls.mono h fun e w' he => by
    obtain ⟨r0_b, r0_l, r0_c, r1, h1, h2⟩ := he
    exact ⟨r0_b, r0_l, r0_c, r1, h1, hr r0_b r0_l r0_c r1 w' h2⟩
def segm_Encode.RV (R : Option Addr → Nat → Nat → Int → World → Prop) (v : Value) (w : World) : Prop := match v with
  | .tuple ⟨[.slice r0_b r0_l r0_c, .int .i64 r1]⟩ => R r0_b r0_l r0_c r1 w
  | _ => False
theorem segm_Encode.RV_elim {R : Option Addr → Nat → Nat → Int → World → Prop} {v : Value} {w : World} (h : segm_Encode.RV R v w) : ∃ r0_b r0_l r0_c r1, Ending.returned v = .returned (.tuple #[.slice r0_b r0_l r0_c, .int .i64 r1]) ∧ R r0_b r0_l r0_c r1 w := by
  unfold segm_Encode.RV at h
  split at h
  · exact ⟨_, _, _, _, rfl, h⟩
  · exact h.elim
/-- e2e/seglaw.Scribble -/
def seglaw_Scribble.Call (b_b : Option Addr) (b_l b_c : Nat) (w : World) (R : World → Prop) : Prop :=
  Calls Try.prog 53 #[.slice b_b b_l b_c] w fun e w' => e = .returned (.tuple #[]) ∧ R w'
theorem seglaw_Scribble.Call.mono {b_b b_l b_c} {w : World} {R R' : World → Prop} (h : seglaw_Scribble.Call b_b b_l b_c w R) (hr : ∀ w', R w' → R'  w') : seglaw_Scribble.Call b_b b_l b_c w R' :=
  Calls.mono h fun e w' he => by
    obtain ⟨h1, h2⟩ := he
    exact ⟨h1, hr  w' h2⟩
def seglaw_Scribble.RV (R : World → Prop) (v : Value) (w : World) : Prop := match v with
  | .tuple ⟨[]⟩ => R w
  | _ => False
theorem seglaw_Scribble.RV_elim {R : World → Prop} {v : Value} {w : World} (h : seglaw_Scribble.RV R v w) : Ending.returned v = .returned (.tuple #[]) ∧ R w := by
  unfold seglaw_Scribble.RV at h
  split at h
  · exact ⟨rfl, h⟩
  · exact h.elim
/-- (*e2e/seglaw.World).Decode -/
def seglaw_World_Decode.Call (w0 : Option Addr) (src dst : Int) (raw_b : Option Addr) (raw_l raw_c : Nat) (w : World) (R : Int → Int → Int → Int → Int → Int → Option Addr → Nat → Nat → Int → Bool → World → Prop) : Prop :=
  Calls Try.prog 54 #[.pointer w0, .int .i64 src, .int .i64 dst, .slice raw_b raw_l raw_c] w fun e w' => ∃ r0_0 r0_1 r0_2 r0_3 r0_4 r0_5 r0_6_b r0_6_l r0_6_c r1 r2, e = .returned (.tuple #[.agg #[.int .i64 r0_0, .int .i64 r0_1, .int .i64 r0_2, .int .i64 r0_3, .int .i64 r0_4, .int .i64 r0_5, .slice r0_6_b r0_6_l r0_6_c], .int .i64 r1, .bool r2]) ∧ R r0_0 r0_1 r0_2 r0_3 r0_4 r0_5 r0_6_b r0_6_l r0_6_c r1 r2 w'
theorem seglaw_World_Decode.Call.mono {w0 src dst raw_b raw_l raw_c} {w : World} {R R' : Int → Int → Int → Int → Int → Int → Option Addr → Nat → Nat → Int → Bool → World → Prop} (h : seglaw_World_Decode.Call w0 src dst raw_b raw_l raw_c w R) (hr : ∀ r0_0 r0_1 r0_2 r0_3 r0_4 r0_5 r0_6_b r0_6_l r0_6_c r1 r2 w', R r0_0 r0_1 r0_2 r0_3 r0_4 r0_5 r0_6_b r0_6_l r0_6_c r1 r2 w' → R' r0_0 r0_1 r0_2 r0_3 r0_4 r0_5 r0_6_b r0_6_l r0_6_c r1 r2 w') : seglaw_World_Decode.Call w0 src dst raw_b raw_l raw_c w R' :=
  Calls.mono h fun e w' he => by
    obtain ⟨r0_0, r0_1, r0_2, r0_3, r0_4, r0_5, r0_6_b, r0_6_l, r0_6_c, r1, r2, h1, h2⟩ := he
    exact ⟨r0_0, r0_1, r0_2, r0_3, r0_4, r0_5, r0_6_b, r0_6_l, r0_6_c, r1, r2, h1, hr r0_0 r0_1 r0_2 r0_3 r0_4 r0_5 r0_6_b r0_6_l r0_6_c r1 r2 w' h2⟩
def seglaw_World_Decode.RV (R : Int → Int → Int → Int → Int → Int → Option Addr → Nat → Nat → Int → Bool → World → Prop) (v : Value) (w : World) : Prop := match v with
  | .tuple ⟨[.agg ⟨[.int .i64 r0_0, .int .i64 r0_1, .int .i64 r0_2, .int .i64 r0_3, .int .i64 r0_4, .int .i64 r0_5, .slice r0_6_b r0_6_l r0_6_c]⟩, .int .i64 r1, .bool r2]⟩ => R r0_0 r0_1 r0_2 r0_3 r0_4 r0_5 r0_6_b r0_6_l r0_6_c r1 r2 w
  | _ => False
theorem seglaw_World_Decode.RV_elim {R : Int → Int → Int → Int → Int → Int → Option Addr → Nat → Nat → Int → Bool → World → Prop} {v : Value} {w : World} (h : seglaw_World_Decode.RV R v w) : ∃ r0_0 r0_1 r0_2 r0_3 r0_4 r0_5 r0_6_b r0_6_l r0_6_c r1 r2, Ending.returned v = .returned (.tuple #[.agg #[.int .i64 r0_0, .int .i64 r0_1, .int .i64 r0_2, .int .i64 r0_3, .int .i64 r0_4, .int .i64 r0_5, .slice r0_6_b r0_6_l r0_6_c], .int .i64 r1, .bool r2]) ∧ R r0_0 r0_1 r0_2 r0_3 r0_4 r0_5 r0_6_b r0_6_l r0_6_c r1 r2 w := by
  unfold seglaw_World_Decode.RV at h
  split at h
  · exact ⟨_, _, _, _, _, _, _, _, _, _, _, rfl, h⟩
  · exact h.elim
/-- e2e/seglaw.SameSeg -/
def seglaw_SameSeg.Call (a_0 a_1 a_2 a_3 a_4 a_5 : Int) (a_6_b : Option Addr) (a_6_l a_6_c : Nat) (b_0 b_1 b_2 b_3 b_4 b_5 : Int) (b_6_b : Option Addr) (b_6_l b_6_c : Nat) (w : World) (R : Bool → World → Prop) : Prop :=
  Calls Try.prog 55 #[.agg #[.int .i64 a_0, .int .i64 a_1, .int .i64 a_2, .int .i64 a_3, .int .i64 a_4, .int .i64 a_5, .slice a_6_b a_6_l a_6_c], .agg #[.int .i64 b_0, .int .i64 b_1, .int .i64 b_2, .int .i64 b_3, .int .i64 b_4, .int .i64 b_5, .slice b_6_b b_6_l b_6_c]] w fun e w' => ∃ r, e = .returned (.bool r) ∧ R r w'
theorem seglaw_SameSeg.Call.mono {a_0 a_1 a_2 a_3 a_4 a_5 a_6_b a_6_l a_6_c b_0 b_1 b_2 b_3 b_4 b_5 b_6_b b_6_l b_6_c} {w : World} {R R' : Bool → World → Prop} (h : seglaw_SameSeg.Call a_0 a_1 a_2 a_3 a_4 a_5 a_6_b a_6_l a_6_c b_0 b_1 b_2 b_3 b_4 b_5 b_6_b b_6_l b_6_c w R) (hr : ∀ r w', R r w' → R' r w') : seglaw_SameSeg.Call a_0 a_1 a_2 a_3 a_4 a_5 a_6_b a_6_l a_6_c b_0 b_1 b_2 b_3 b_4 b_5 b_6_b b_6_l b_6_c w R' :=
  Calls.mono h fun e w' he => by
    obtain ⟨r, h1, h2⟩ := he
    exact ⟨r, h1, hr r w' h2⟩
def seglaw_SameSeg.RV (R : Bool → World → Prop) (v : Value) (w : World) : Prop := match v with
  | .bool r => R r w
  | _ => False
theorem seglaw_SameSeg.RV_elim {R : Bool → World → Prop} {v : Value} {w : World} (h : seglaw_SameSeg.RV R v w) : ∃ r, Ending.returned v = .returned (.bool r) ∧ R r w := by
  unfold seglaw_SameSeg.RV at h
  split at h
  · exact ⟨_, rfl, h⟩
  · exact h.elim
/-- e2e/api.CopyBytes -/
def api_CopyBytes.Call (b_b : Option Addr) (b_l b_c : Nat) (w : World) (R : Option Addr → Nat → Nat → World → Prop) : Prop :=
  Calls Try.prog 56 #[.slice b_b b_l b_c] w fun e w' => ∃ r_b r_l r_c, e = .returned (.slice r_b r_l r_c) ∧ R r_b r_l r_c w'
theorem api_CopyBytes.Call.mono {b_b b_l b_c} {w : World} {R R' : Option Addr → Nat → Nat → World → Prop} (h : api_CopyBytes.Call b_b b_l b_c w R) (hr : ∀ r_b r_l r_c w', R r_b r_l r_c w' → R' r_b r_l r_c w') : api_CopyBytes.Call b_b b_l b_c w R' :=
  Calls.mono h fun e w' he => by
    obtain ⟨r_b, r_l, r_c, h1, h2⟩ := he
    exact ⟨r_b, r_l, r_c, h1, hr r_b r_l r_c w' h2⟩
def api_CopyBytes.RV (R : Option Addr → Nat → Nat → World → Prop) (v : Value) (w : World) : Prop := match v with
  | .slice r_b r_l r_c => R r_b r_l r_c w
  | _ => False
theorem api_CopyBytes.RV_elim {R : Option Addr → Nat → Nat → World → Prop} {v : Value} {w : World} (h : api_CopyBytes.RV R v w) : ∃ r_b r_l r_c, Ending.returned v = .returned (.slice r_b r_l r_c) ∧ R r_b r_l r_c w := by
  unfold api_CopyBytes.RV at h
  split at h
  · exact ⟨_, _, _, rfl, h⟩
  · exact h.elim
/-- (*e2e/seg.SendBuf).Reset -/
def seg_SendBuf_Reset.Call (b : Option Addr) (seq : Int) (w : World) (R : World → Prop) : Prop :=
  Calls Try.prog 57 #[.pointer b, .int .i64 seq] w fun e w' => e = .returned (.tuple #[]) ∧ R w'
theorem seg_SendBuf_Reset.Call.mono {b seq} {w : World} {R R' : World → Prop} (h : seg_SendBuf_Reset.Call b seq w R) (hr : ∀ w', R w' → R'  w') : seg_SendBuf_Reset.Call b seq w R' :=
  Calls.mono h fun e w' he => by
    obtain ⟨h1, h2⟩ := he
    exact ⟨h1, hr  w' h2⟩
def seg_SendBuf_Reset.RV (R : World → Prop) (v : Value) (w : World) : Prop := match v with
  | .tuple ⟨[]⟩ => R w
  | _ => False
theorem seg_SendBuf_Reset.RV_elim {R : World → Prop} {v : Value} {w : World} (h : seg_SendBuf_Reset.RV R v w) : Ending.returned v = .returned (.tuple #[]) ∧ R w := by
  unfold seg_SendBuf_Reset.RV at h
  split at h
  · exact ⟨rfl, h⟩
  · exact h.elim
/-- (*e2e/segm.SendBuf).Reset -/
def segm_SendBuf_Reset.Call (b : Option Addr) (seq : Int) (w : World) (R : World → Prop) : Prop :=
  Calls Try.prog 58 #[.pointer b, .int .i64 seq] w fun e w' => e = .returned (.tuple #[]) ∧ R w'
theorem segm_SendBuf_Reset.Call.mono {b seq} {w : World} {R R' : World → Prop} (h : segm_SendBuf_Reset.Call b seq w R) (hr : ∀ w', R w' → R'  w') : segm_SendBuf_Reset.Call b seq w R' :=
  Calls.mono h fun e w' he => by
    obtain ⟨h1, h2⟩ := he
    exact ⟨h1, hr  w' h2⟩
def segm_SendBuf_Reset.RV (R : World → Prop) (v : Value) (w : World) : Prop := match v with
  | .tuple ⟨[]⟩ => R w
  | _ => False
theorem segm_SendBuf_Reset.RV_elim {R : World → Prop} {v : Value} {w : World} (h : segm_SendBuf_Reset.RV R v w) : Ending.returned v = .returned (.tuple #[]) ∧ R w := by
  unfold segm_SendBuf_Reset.RV at h
  split at h
  · exact ⟨rfl, h⟩
  · exact h.elim
/-- (*e2e/seg.SendBuf).Put -/
def seg_SendBuf_Put.Call (b p_b : Option Addr) (p_l p_c : Nat) (w : World) (R : Int → World → Prop) : Prop :=
  Calls Try.prog 59 #[.pointer b, .slice p_b p_l p_c] w fun e w' => ∃ r, e = .returned (.int .i64 r) ∧ R r w'
theorem seg_SendBuf_Put.Call.mono {b p_b p_l p_c} {w : World} {R R' : Int → World → Prop} (h : seg_SendBuf_Put.Call b p_b p_l p_c w R) (hr : ∀ r w', R r w' → R' r w') : seg_SendBuf_Put.Call b p_b p_l p_c w R' :=
  Calls.mono h fun e w' he => by
    obtain ⟨r, h1, h2⟩ := he
    exact ⟨r, h1, hr r w' h2⟩
def seg_SendBuf_Put.RV (R : Int → World → Prop) (v : Value) (w : World) : Prop := match v with
  | .int .i64 r => R r w
  | _ => False
theorem seg_SendBuf_Put.RV_elim {R : Int → World → Prop} {v : Value} {w : World} (h : seg_SendBuf_Put.RV R v w) : ∃ r, Ending.returned v = .returned (.int .i64 r) ∧ R r w := by
  unfold seg_SendBuf_Put.RV at h
  split at h
  · exact ⟨_, rfl, h⟩
  · exact h.elim
/-- (*e2e/segm.SendBuf).Put -/
def segm_SendBuf_Put.Call (b p_b : Option Addr) (p_l p_c : Nat) (w : World) (R : Int → World → Prop) : Prop :=
  Calls Try.prog 60 #[.pointer b, .slice p_b p_l p_c] w fun e w' => ∃ r, e = .returned (.int .i64 r) ∧ R r w'
theorem segm_SendBuf_Put.Call.mono {b p_b p_l p_c} {w : World} {R R' : Int → World → Prop} (h : segm_SendBuf_Put.Call b p_b p_l p_c w R) (hr : ∀ r w', R r w' → R' r w') : segm_SendBuf_Put.Call b p_b p_l p_c w R' :=
  Calls.mono h fun e w' he => by
    obtain ⟨r, h1, h2⟩ := he
    exact ⟨r, h1, hr r w' h2⟩
def segm_SendBuf_Put.RV (R : Int → World → Prop) (v : Value) (w : World) : Prop := match v with
  | .int .i64 r => R r w
  | _ => False
theorem segm_SendBuf_Put.RV_elim {R : Int → World → Prop} {v : Value} {w : World} (h : segm_SendBuf_Put.RV R v w) : ∃ r, Ending.returned v = .returned (.int .i64 r) ∧ R r w := by
  unfold segm_SendBuf_Put.RV at h
  split at h
  · exact ⟨_, rfl, h⟩
  · exact h.elim
/-- (*e2e/seg.SendBuf).Next -/
def seg_SendBuf_Next.Call (b : Option Addr) (max : Int) (w : World) (R : Int → Option Addr → Nat → Nat → World → Prop) : Prop :=
  Calls Try.prog 61 #[.pointer b, .int .i64 max] w fun e w' => ∃ r0 r1_b r1_l r1_c, e = .returned (.tuple #[.int .i64 r0, .slice r1_b r1_l r1_c]) ∧ R r0 r1_b r1_l r1_c w'
theorem seg_SendBuf_Next.Call.mono {b max} {w : World} {R R' : Int → Option Addr → Nat → Nat → World → Prop} (h : seg_SendBuf_Next.Call b max w R) (hr : ∀ r0 r1_b r1_l r1_c w', R r0 r1_b r1_l r1_c w' → R' r0 r1_b r1_l r1_c w') : seg_SendBuf_Next.Call b max w R' :=
  Calls.mono h fun e w' he => by
    obtain ⟨r0, r1_b, r1_l, r1_c, h1, h2⟩ := he
    exact ⟨r0, r1_b, r1_l, r1_c, h1, hr r0 r1_b r1_l r1_c w' h2⟩
def seg_SendBuf_Next.RV (R : Int → Option Addr → Nat → Nat → World → Prop) (v : Value) (w : World) : Prop := match v with
  | .tuple ⟨[.int .i64 r0, .slice r1_b r1_l r1_c]⟩ => R r0 r1_b r1_l r1_c w
  | _ => False
theorem seg_SendBuf_Next.RV_elim {R : Int → Option Addr → Nat → Nat → World → Prop} {v : Value} {w : World} (h : seg_SendBuf_Next.RV R v w) : ∃ r0 r1_b r1_l r1_c, Ending.returned v = .returned (.tuple #[.int .i64 r0, .slice r1_b r1_l r1_c]) ∧ R r0 r1_b r1_l r1_c w := by
  unfold seg_SendBuf_Next.RV at h
  split at h
  · exact ⟨_, _, _, _, rfl, h⟩
  · exact h.elim
/-- (*e2e/segm.SendBuf).Next -/
def segm_SendBuf_Next.Call (b : Option Addr) (max : Int) (w : World) (R : Int → Option Addr → Nat → Nat → World → Prop) : Prop :=
  Calls Try.prog 62 #[.pointer b, .int .i64 max] w fun e w' => ∃ r0 r1_b r1_l r1_c, e = .returned (.tuple #[.int .i64 r0, .slice r1_b r1_l r1_c]) ∧ R r0 r1_b r1_l r1_c w'
theorem segm_SendBuf_Next.Call.mono {b max} {w : World} {R R' : Int → Option Addr → Nat → Nat → World → Prop} (h : segm_SendBuf_Next.Call b max w R) (hr : ∀ r0 r1_b r1_l r1_c w', R r0 r1_b r1_l r1_c w' → R' r0 r1_b r1_l r1_c w') : segm_SendBuf_Next.Call b max w R' :=
  Calls.mono h fun e w' he => by
    obtain ⟨r0, r1_b, r1_l, r1_c, h1, h2⟩ := he
    exact ⟨r0, r1_b, r1_l, r1_c, h1, hr r0 r1_b r1_l r1_c w' h2⟩
def segm_SendBuf_Next.RV (R : Int → Option Addr → Nat → Nat → World → Prop) (v : Value) (w : World) : Prop := match v with
  | .tuple ⟨[.int .i64 r0, .slice r1_b r1_l r1_c]⟩ => R r0 r1_b r1_l r1_c w
  | _ => False
theorem segm_SendBuf_Next.RV_elim {R : Int → Option Addr → Nat → Nat → World → Prop} {v : Value} {w : World} (h : segm_SendBuf_Next.RV R v w) : ∃ r0 r1_b r1_l r1_c, Ending.returned v = .returned (.tuple #[.int .i64 r0, .slice r1_b r1_l r1_c]) ∧ R r0 r1_b r1_l r1_c w := by
  unfold segm_SendBuf_Next.RV at h
  split at h
  · exact ⟨_, _, _, _, rfl, h⟩
  · exact h.elim
/-- (*e2e/seglaw.World).Ack -/
def seglaw_World_Ack.Call (w0 : Option Addr) (a : Int) (w : World) (R : Bool → World → Prop) : Prop :=
  Calls Try.prog 63 #[.pointer w0, .int .i64 a] w fun e w' => ∃ r, e = .returned (.bool r) ∧ R r w'
theorem seglaw_World_Ack.Call.mono {w0 a} {w : World} {R R' : Bool → World → Prop} (h : seglaw_World_Ack.Call w0 a w R) (hr : ∀ r w', R r w' → R' r w') : seglaw_World_Ack.Call w0 a w R' :=
  Calls.mono h fun e w' he => by
    obtain ⟨r, h1, h2⟩ := he
    exact ⟨r, h1, hr r w' h2⟩
def seglaw_World_Ack.RV (R : Bool → World → Prop) (v : Value) (w : World) : Prop := match v with
  | .bool r => R r w
  | _ => False
theorem seglaw_World_Ack.RV_elim {R : Bool → World → Prop} {v : Value} {w : World} (h : seglaw_World_Ack.RV R v w) : ∃ r, Ending.returned v = .returned (.bool r) ∧ R r w := by
  unfold seglaw_World_Ack.RV at h
  split at h
  · exact ⟨_, rfl, h⟩
  · exact h.elim
/-- (*e2e/seg.RecvBuf).Reset -/
def seg_RecvBuf_Reset.Call (b : Option Addr) (seq : Int) (w : World) (R : World → Prop) : Prop :=
  Calls Try.prog 64 #[.pointer b, .int .i64 seq] w fun e w' => e = .returned (.tuple #[]) ∧ R w'
theorem seg_RecvBuf_Reset.Call.mono {b seq} {w : World} {R R' : World → Prop} (h : seg_RecvBuf_Reset.Call b seq w R) (hr : ∀ w', R w' → R'  w') : seg_RecvBuf_Reset.Call b seq w R' :=
  Calls.mono h fun e w' he => by
    obtain ⟨h1, h2⟩ := he
    exact ⟨h1, hr  w' h2⟩
def seg_RecvBuf_Reset.RV (R : World → Prop) (v : Value) (w : World) : Prop := match v with
  | .tuple ⟨[]⟩ => R w
  | _ => False
theorem seg_RecvBuf_Reset.RV_elim {R : World → Prop} {v : Value} {w : World} (h : seg_RecvBuf_Reset.RV R v w) : Ending.returned v = .returned (.tuple #[]) ∧ R w := by
  unfold seg_RecvBuf_Reset.RV at h
  split at h
  · exact ⟨rfl, h⟩
  · exact h.elim
/-- (*e2e/segm.RecvBuf).Reset -/
def segm_RecvBuf_Reset.Call (b : Option Addr) (seq : Int) (w : World) (R : World → Prop) : Prop :=
  Calls Try.prog 65 #[.pointer b, .int .i64 seq] w fun e w' => e = .returned (.tuple #[]) ∧ R w'
theorem segm_RecvBuf_Reset.Call.mono {b seq} {w : World} {R R' : World → Prop} (h : segm_RecvBuf_Reset.Call b seq w R) (hr : ∀ w', R w' → R'  w') : segm_RecvBuf_Reset.Call b seq w R' :=
  Calls.mono h fun e w' he => by
    obtain ⟨h1, h2⟩ := he
    exact ⟨h1, hr  w' h2⟩
def segm_RecvBuf_Reset.RV (R : World → Prop) (v : Value) (w : World) : Prop := match v with
  | .tuple ⟨[]⟩ => R w
  | _ => False
theorem segm_RecvBuf_Reset.RV_elim {R : World → Prop} {v : Value} {w : World} (h : segm_RecvBuf_Reset.RV R v w) : Ending.returned v = .returned (.tuple #[]) ∧ R w := by
  unfold segm_RecvBuf_Reset.RV at h
  split at h
  · exact ⟨rfl, h⟩
  · exact h.elim
/-- (*e2e/seglaw.World).Insert -/
def seglaw_World_Insert.Call (w0 : Option Addr) (seq : Int) (p_b : Option Addr) (p_l p_c : Nat) (w : World) (R : Bool → World → Prop) : Prop :=
  Calls Try.prog 66 #[.pointer w0, .int .i64 seq, .slice p_b p_l p_c] w fun e w' => ∃ r, e = .returned (.bool r) ∧ R r w'
theorem seglaw_World_Insert.Call.mono {w0 seq p_b p_l p_c} {w : World} {R R' : Bool → World → Prop} (h : seglaw_World_Insert.Call w0 seq p_b p_l p_c w R) (hr : ∀ r w', R r w' → R' r w') : seglaw_World_Insert.Call w0 seq p_b p_l p_c w R' :=
  Calls.mono h fun e w' he => by
    obtain ⟨r, h1, h2⟩ := he
    exact ⟨r, h1, hr r w' h2⟩
def seglaw_World_Insert.RV (R : Bool → World → Prop) (v : Value) (w : World) : Prop := match v with
  | .bool r => R r w
  | _ => False
theorem seglaw_World_Insert.RV_elim {R : Bool → World → Prop} {v : Value} {w : World} (h : seglaw_World_Insert.RV R v w) : ∃ r, Ending.returned v = .returned (.bool r) ∧ R r w := by
  unfold seglaw_World_Insert.RV at h
  split at h
  · exact ⟨_, rfl, h⟩
  · exact h.elim
/-- (*e2e/seg.RecvBuf).Read -/
def seg_RecvBuf_Read.Call (b : Option Addr) (max : Int) (w : World) (R : Option Addr → Nat → Nat → World → Prop) : Prop :=
  Calls Try.prog 67 #[.pointer b, .int .i64 max] w fun e w' => ∃ r_b r_l r_c, e = .returned (.slice r_b r_l r_c) ∧ R r_b r_l r_c w'
theorem seg_RecvBuf_Read.Call.mono {b max} {w : World} {R R' : Option Addr → Nat → Nat → World → Prop} (h : seg_RecvBuf_Read.Call b max w R) (hr : ∀ r_b r_l r_c w', R r_b r_l r_c w' → R' r_b r_l r_c w') : seg_RecvBuf_Read.Call b max w R' :=
  Calls.mono h fun e w' he => by
    obtain ⟨r_b, r_l, r_c, h1, h2⟩ := he
    exact ⟨r_b, r_l, r_c, h1, hr r_b r_l r_c w' h2⟩
def seg_RecvBuf_Read.RV (R : Option Addr → Nat → Nat → World → Prop) (v : Value) (w : World) : Prop := match v with
  | .slice r_b r_l r_c => R r_b r_l r_c w
  | _ => False
theorem seg_RecvBuf_Read.RV_elim {R : Option Addr → Nat → Nat → World → Prop} {v : Value} {w : World} (h : seg_RecvBuf_Read.RV R v w) : ∃ r_b r_l r_c, Ending.returned v = .returned (.slice r_b r_l r_c) ∧ R r_b r_l r_c w := by
  unfold seg_RecvBuf_Read.RV at h
  split at h
  · exact ⟨_, _, _, rfl, h⟩
  · exact h.elim
/-- (*e2e/segm.RecvBuf).Read -/
def segm_RecvBuf_Read.Call (b : Option Addr) (max : Int) (w : World) (R : Option Addr → Nat → Nat → World → Prop) : Prop :=
  Calls Try.prog 68 #[.pointer b, .int .i64 max] w fun e w' => ∃ r_b r_l r_c, e = .returned (.slice r_b r_l r_c) ∧ R r_b r_l r_c w'
theorem segm_RecvBuf_Read.Call.mono {b max} {w : World} {R R' : Option Addr → Nat → Nat → World → Prop} (h : segm_RecvBuf_Read.Call b max w R) (hr : ∀ r_b r_l r_c w', R r_b r_l r_c w' → R' r_b r_l r_c w') : segm_RecvBuf_Read.Call b max w R' :=
  Calls.mono h fun e w' he => by
    obtain ⟨r_b, r_l, r_c, h1, h2⟩ := he
    exact ⟨r_b, r_l, r_c, h1, hr r_b r_l r_c w' h2⟩
def segm_RecvBuf_Read.RV (R : Option Addr → Nat → Nat → World → Prop) (v : Value) (w : World) : Prop := match v with
  | .slice r_b r_l r_c => R r_b r_l r_c w
  | _ => False
theorem segm_RecvBuf_Read.RV_elim {R : Option Addr → Nat → Nat → World → Prop} {v : Value} {w : World} (h : segm_RecvBuf_Read.RV R v w) : ∃ r_b r_l r_c, Ending.returned v = .returned (.slice r_b r_l r_c) ∧ R r_b r_l r_c w := by
  unfold segm_RecvBuf_Read.RV at h
  split at h
  · exact ⟨_, _, _, rfl, h⟩
  · exact h.elim
/-- e2e/api.SeqAdd -/
def api_SeqAdd.Call (a n : Int) (w : World) (R : Int → World → Prop) : Prop :=
  Calls Try.prog 69 #[.int .i64 a, .int .i64 n] w fun e w' => ∃ r, e = .returned (.int .i64 r) ∧ R r w'
theorem api_SeqAdd.Call.mono {a n} {w : World} {R R' : Int → World → Prop} (h : api_SeqAdd.Call a n w R) (hr : ∀ r w', R r w' → R' r w') : api_SeqAdd.Call a n w R' :=
  Calls.mono h fun e w' he => by
    obtain ⟨r, h1, h2⟩ := he
    exact ⟨r, h1, hr r w' h2⟩
def api_SeqAdd.RV (R : Int → World → Prop) (v : Value) (w : World) : Prop := match v with
  | .int .i64 r => R r w
  | _ => False
theorem api_SeqAdd.RV_elim {R : Int → World → Prop} {v : Value} {w : World} (h : api_SeqAdd.RV R v w) : ∃ r, Ending.returned v = .returned (.int .i64 r) ∧ R r w := by
  unfold api_SeqAdd.RV at h
  split at h
  · exact ⟨_, rfl, h⟩
  · exact h.elim
/-- (*e2e/seg.SendBuf).span -/
def seg_SendBuf_span.Call (b : Option Addr) (off n : Int) (w : World) (R : Option Addr → Nat → Nat → World → Prop) : Prop :=
  Calls Try.prog 70 #[.pointer b, .int .i64 off, .int .i64 n] w fun e w' => ∃ r_b r_l r_c, e = .returned (.slice r_b r_l r_c) ∧ R r_b r_l r_c w'
theorem seg_SendBuf_span.Call.mono {b off n} {w : World} {R R' : Option Addr → Nat → Nat → World → Prop} (h : seg_SendBuf_span.Call b off n w R) (hr : ∀ r_b r_l r_c w', R r_b r_l r_c w' → R' r_b r_l r_c w') : seg_SendBuf_span.Call b off n w R' :=
  Calls.mono h fun e w' he => by
    obtain ⟨r_b, r_l, r_c, h1, h2⟩ := he
    exact ⟨r_b, r_l, r_c, h1, hr r_b r_l r_c w' h2⟩
def seg_SendBuf_span.RV (R : Option Addr → Nat → Nat → World → Prop) (v : Value) (w : World) : Prop := match v with
  | .slice r_b r_l r_c => R r_b r_l r_c w
  | _ => False
theorem seg_SendBuf_span.RV_elim {R : Option Addr → Nat → Nat → World → Prop} {v : Value} {w : World} (h : seg_SendBuf_span.RV R v w) : ∃ r_b r_l r_c, Ending.returned v = .returned (.slice r_b r_l r_c) ∧ R r_b r_l r_c w := by
  unfold seg_SendBuf_span.RV at h
  split at h
  · exact ⟨_, _, _, rfl, h⟩
  · exact h.elim
/-- (*e2e/seg.RecvBuf).first -/
def seg_RecvBuf_first.Call (b : Option Addr) (n : Int) (w : World) (R : Option Addr → Nat → Nat → World → Prop) : Prop :=
  Calls Try.prog 71 #[.pointer b, .int .i64 n] w fun e w' => ∃ r_b r_l r_c, e = .returned (.slice r_b r_l r_c) ∧ R r_b r_l r_c w'
theorem seg_RecvBuf_first.Call.mono {b n} {w : World} {R R' : Option Addr → Nat → Nat → World → Prop} (h : seg_RecvBuf_first.Call b n w R) (hr : ∀ r_b r_l r_c w', R r_b r_l r_c w' → R' r_b r_l r_c w') : seg_RecvBuf_first.Call b n w R' :=
  Calls.mono h fun e w' he => by
    obtain ⟨r_b, r_l, r_c, h1, h2⟩ := he
    exact ⟨r_b, r_l, r_c, h1, hr r_b r_l r_c w' h2⟩
def seg_RecvBuf_first.RV (R : Option Addr → Nat → Nat → World → Prop) (v : Value) (w : World) : Prop := match v with
  | .slice r_b r_l r_c => R r_b r_l r_c w
  | _ => False
theorem seg_RecvBuf_first.RV_elim {R : Option Addr → Nat → Nat → World → Prop} {v : Value} {w : World} (h : seg_RecvBuf_first.RV R v w) : ∃ r_b r_l r_c, Ending.returned v = .returned (.slice r_b r_l r_c) ∧ R r_b r_l r_c w := by
  unfold seg_RecvBuf_first.RV at h
  split at h
  · exact ⟨_, _, _, rfl, h⟩
  · exact h.elim
/-- (*e2e/seg.RecvBuf).bit -/
def seg_RecvBuf_bit.Call (b : Option Addr) (d : Int) (w : World) (R : Int → World → Prop) : Prop :=
  Calls Try.prog 72 #[.pointer b, .int .i64 d] w fun e w' => ∃ r, e = .returned (.int .u16 r) ∧ R r w'
theorem seg_RecvBuf_bit.Call.mono {b d} {w : World} {R R' : Int → World → Prop} (h : seg_RecvBuf_bit.Call b d w R) (hr : ∀ r w', R r w' → R' r w') : seg_RecvBuf_bit.Call b d w R' :=
  Calls.mono h fun e w' he => by
    obtain ⟨r, h1, h2⟩ := he
    exact ⟨r, h1, hr r w' h2⟩
def seg_RecvBuf_bit.RV (R : Int → World → Prop) (v : Value) (w : World) : Prop := match v with
  | .int .u16 r => R r w
  | _ => False
theorem seg_RecvBuf_bit.RV_elim {R : Int → World → Prop} {v : Value} {w : World} (h : seg_RecvBuf_bit.RV R v w) : ∃ r, Ending.returned v = .returned (.int .u16 r) ∧ R r w := by
  unfold seg_RecvBuf_bit.RV at h
  split at h
  · exact ⟨_, rfl, h⟩
  · exact h.elim
/-- e2e/seg.least -/
def seg_least.Call (max have0 : Int) (w : World) (R : Int → World → Prop) : Prop :=
  Calls Try.prog 73 #[.int .i64 max, .int .i64 have0] w fun e w' => ∃ r, e = .returned (.int .i64 r) ∧ R r w'
theorem seg_least.Call.mono {max have0} {w : World} {R R' : Int → World → Prop} (h : seg_least.Call max have0 w R) (hr : ∀ r w', R r w' → R' r w') : seg_least.Call max have0 w R' :=
  Calls.mono h fun e w' he => by
    obtain ⟨r, h1, h2⟩ := he
    exact ⟨r, h1, hr r w' h2⟩
def seg_least.RV (R : Int → World → Prop) (v : Value) (w : World) : Prop := match v with
  | .int .i64 r => R r w
  | _ => False
theorem seg_least.RV_elim {R : Int → World → Prop} {v : Value} {w : World} (h : seg_least.RV R v w) : ∃ r, Ending.returned v = .returned (.int .i64 r) ∧ R r w := by
  unfold seg_least.RV at h
  split at h
  · exact ⟨_, rfl, h⟩
  · exact h.elim
/-- e2e/seg.over -/
def seg_over.Call (src dst : Int) (head_b : Option Addr) (head_l head_c : Nat) (data_b : Option Addr) (data_l data_c : Nat) (w : World) (R : Int → Int → World → Prop) : Prop :=
  Calls Try.prog 74 #[.int .i64 src, .int .i64 dst, .slice head_b head_l head_c, .slice data_b data_l data_c] w fun e w' => ∃ r_0 r_1, e = .returned (.agg #[.int .u8 r_0, .int .u8 r_1]) ∧ R r_0 r_1 w'
theorem seg_over.Call.mono {src dst head_b head_l head_c data_b data_l data_c} {w : World} {R R' : Int → Int → World → Prop} (h : seg_over.Call src dst head_b head_l head_c data_b data_l data_c w R) (hr : ∀ r_0 r_1 w', R r_0 r_1 w' → R' r_0 r_1 w') : seg_over.Call src dst head_b head_l head_c data_b data_l data_c w R' :=
  Calls.mono h fun e w' he => by
    obtain ⟨r_0, r_1, h1, h2⟩ := he
    exact ⟨r_0, r_1, h1, hr r_0 r_1 w' h2⟩
def seg_over.RV (R : Int → Int → World → Prop) (v : Value) (w : World) : Prop := match v with
  | .agg ⟨[.int .u8 r_0, .int .u8 r_1]⟩ => R r_0 r_1 w
  | _ => False
theorem seg_over.RV_elim {R : Int → Int → World → Prop} {v : Value} {w : World} (h : seg_over.RV R v w) : ∃ r_0 r_1, Ending.returned v = .returned (.agg #[.int .u8 r_0, .int .u8 r_1]) ∧ R r_0 r_1 w := by
  unfold seg_over.RV at h
  split at h
  · exact ⟨_, _, rfl, h⟩
  · exact h.elim
/-- e2e/segm.sums -/
def segm_sums.Call (src dst : Int) (head_b : Option Addr) (head_l head_c : Nat) (data_b : Option Addr) (data_l data_c : Nat) (w : World) (R : Int → Int → World → Prop) : Prop :=
  Calls Try.prog 75 #[.int .i64 src, .int .i64 dst, .slice head_b head_l head_c, .slice data_b data_l data_c] w fun e w' => ∃ r0 r1, e = .returned (.tuple #[.int .i64 r0, .int .i64 r1]) ∧ R r0 r1 w'
theorem segm_sums.Call.mono {src dst head_b head_l head_c data_b data_l data_c} {w : World} {R R' : Int → Int → World → Prop} (h : segm_sums.Call src dst head_b head_l head_c data_b data_l data_c w R) (hr : ∀ r0 r1 w', R r0 r1 w' → R' r0 r1 w') : segm_sums.Call src dst head_b head_l head_c data_b data_l data_c w R' :=
  Calls.mono h fun e w' he => by
    obtain ⟨r0, r1, h1, h2⟩ := he
    exact ⟨r0, r1, h1, hr r0 r1 w' h2⟩
def segm_sums.RV (R : Int → Int → World → Prop) (v : Value) (w : World) : Prop := match v with
  | .tuple ⟨[.int .i64 r0, .int .i64 r1]⟩ => R r0 r1 w
  | _ => False
theorem segm_sums.RV_elim {R : Int → Int → World → Prop} {v : Value} {w : World} (h : segm_sums.RV R v w) : ∃ r0 r1, Ending.returned v = .returned (.tuple #[.int .i64 r0, .int .i64 r1]) ∧ R r0 r1 w := by
  unfold segm_sums.RV at h
  split at h
  · exact ⟨_, _, rfl, h⟩
  · exact h.elim
/-- e2e/seg.Decode -/
def seg_Decode.Call (src dst : Int) (raw_b : Option Addr) (raw_l raw_c : Nat) (w : World) (R : Int → Int → Int → Int → Int → Int → Option Addr → Nat → Nat → Int → World → Prop) : Prop :=
  Calls Try.prog 76 #[.int .i64 src, .int .i64 dst, .slice raw_b raw_l raw_c] w fun e w' => ∃ r0_0 r0_1 r0_2 r0_3 r0_4 r0_5 r0_6_b r0_6_l r0_6_c r1, e = .returned (.tuple #[.agg #[.int .i64 r0_0, .int .i64 r0_1, .int .i64 r0_2, .int .i64 r0_3, .int .i64 r0_4, .int .i64 r0_5, .slice r0_6_b r0_6_l r0_6_c], .int .i64 r1]) ∧ R r0_0 r0_1 r0_2 r0_3 r0_4 r0_5 r0_6_b r0_6_l r0_6_c r1 w'
theorem seg_Decode.Call.mono {src dst raw_b raw_l raw_c} {w : World} {R R' : Int → Int → Int → Int → Int → Int → Option Addr → Nat → Nat → Int → World → Prop} (h : seg_Decode.Call src dst raw_b raw_l raw_c w R) (hr : ∀ r0_0 r0_1 r0_2 r0_3 r0_4 r0_5 r0_6_b r0_6_l r0_6_c r1 w', R r0_0 r0_1 r0_2 r0_3 r0_4 r0_5 r0_6_b r0_6_l r0_6_c r1 w' → R' r0_0 r0_1 r0_2 r0_3 r0_4 r0_5 r0_6_b r0_6_l r0_6_c r1 w') : seg_Decode.Call src dst raw_b raw_l raw_c w R' :=
  Calls.mono h fun e w' he => by
    obtain ⟨r0_0, r0_1, r0_2, r0_3, r0_4, r0_5, r0_6_b, r0_6_l, r0_6_c, r1, h1, h2⟩ := he
    exact ⟨r0_0, r0_1, r0_2, r0_3, r0_4, r0_5, r0_6_b, r0_6_l, r0_6_c, r1, h1, hr r0_0 r0_1 r0_2 r0_3 r0_4 r0_5 r0_6_b r0_6_l r0_6_c r1 w' h2⟩
def seg_Decode.RV (R : Int → Int → Int → Int → Int → Int → Option Addr → Nat → Nat → Int → World → Prop) (v : Value) (w : World) : Prop := match v with
  | .tuple ⟨[.agg ⟨[.int .i64 r0_0, .int .i64 r0_1, .int .i64 r0_2, .int .i64 r0_3, .int .i64 r0_4, .int .i64 r0_5, .slice r0_6_b r0_6_l r0_6_c]⟩, .int .i64 r1]⟩ => R r0_0 r0_1 r0_2 r0_3 r0_4 r0_5 r0_6_b r0_6_l r0_6_c r1 w
  | _ => False
theorem seg_Decode.RV_elim {R : Int → Int → Int → Int → Int → Int → Option Addr → Nat → Nat → Int → World → Prop} {v : Value} {w : World} (h : seg_Decode.RV R v w) : ∃ r0_0 r0_1 r0_2 r0_3 r0_4 r0_5 r0_6_b r0_6_l r0_6_c r1, Ending.returned v = .returned (.tuple #[.agg #[.int .i64 r0_0, .int .i64 r0_1, .int .i64 r0_2, .int .i64 r0_3, .int .i64 r0_4, .int .i64 r0_5, .slice r0_6_b r0_6_l r0_6_c], .int .i64 r1]) ∧ R r0_0 r0_1 r0_2 r0_3 r0_4 r0_5 r0_6_b r0_6_l r0_6_c r1 w := by
  unfold seg_Decode.RV at h
  split at h
  · exact ⟨_, _, _, _, _, _, _, _, _, _, rfl, h⟩
  · exact h.elim
/-- e2e/segm.Decode -/
def segm_Decode.Call (src dst : Int) (raw_b : Option Addr) (raw_l raw_c : Nat) (w : World) (R : Int → Int → Int → Int → Int → Int → Option Addr → Nat → Nat → Int → World → Prop) : Prop :=
  Calls Try.prog 77 #[.int .i64 src, .int .i64 dst, .slice raw_b raw_l raw_c] w fun e w' => ∃ r0_0 r0_1 r0_2 r0_3 r0_4 r0_5 r0_6_b r0_6_l r0_6_c r1, e = .returned (.tuple #[.agg #[.int .i64 r0_0, .int .i64 r0_1, .int .i64 r0_2, .int .i64 r0_3, .int .i64 r0_4, .int .i64 r0_5, .slice r0_6_b r0_6_l r0_6_c], .int .i64 r1]) ∧ R r0_0 r0_1 r0_2 r0_3 r0_4 r0_5 r0_6_b r0_6_l r0_6_c r1 w'
theorem segm_Decode.Call.mono {src dst raw_b raw_l raw_c} {w : World} {R R' : Int → Int → Int → Int → Int → Int → Option Addr → Nat → Nat → Int → World → Prop} (h : segm_Decode.Call src dst raw_b raw_l raw_c w R) (hr : ∀ r0_0 r0_1 r0_2 r0_3 r0_4 r0_5 r0_6_b r0_6_l r0_6_c r1 w', R r0_0 r0_1 r0_2 r0_3 r0_4 r0_5 r0_6_b r0_6_l r0_6_c r1 w' → R' r0_0 r0_1 r0_2 r0_3 r0_4 r0_5 r0_6_b r0_6_l r0_6_c r1 w') : segm_Decode.Call src dst raw_b raw_l raw_c w R' :=
  Calls.mono h fun e w' he => by
    obtain ⟨r0_0, r0_1, r0_2, r0_3, r0_4, r0_5, r0_6_b, r0_6_l, r0_6_c, r1, h1, h2⟩ := he
    exact ⟨r0_0, r0_1, r0_2, r0_3, r0_4, r0_5, r0_6_b, r0_6_l, r0_6_c, r1, h1, hr r0_0 r0_1 r0_2 r0_3 r0_4 r0_5 r0_6_b r0_6_l r0_6_c r1 w' h2⟩
def segm_Decode.RV (R : Int → Int → Int → Int → Int → Int → Option Addr → Nat → Nat → Int → World → Prop) (v : Value) (w : World) : Prop := match v with
  | .tuple ⟨[.agg ⟨[.int .i64 r0_0, .int .i64 r0_1, .int .i64 r0_2, .int .i64 r0_3, .int .i64 r0_4, .int .i64 r0_5, .slice r0_6_b r0_6_l r0_6_c]⟩, .int .i64 r1]⟩ => R r0_0 r0_1 r0_2 r0_3 r0_4 r0_5 r0_6_b r0_6_l r0_6_c r1 w
  | _ => False
theorem segm_Decode.RV_elim {R : Int → Int → Int → Int → Int → Int → Option Addr → Nat → Nat → Int → World → Prop} {v : Value} {w : World} (h : segm_Decode.RV R v w) : ∃ r0_0 r0_1 r0_2 r0_3 r0_4 r0_5 r0_6_b r0_6_l r0_6_c r1, Ending.returned v = .returned (.tuple #[.agg #[.int .i64 r0_0, .int .i64 r0_1, .int .i64 r0_2, .int .i64 r0_3, .int .i64 r0_4, .int .i64 r0_5, .slice r0_6_b r0_6_l r0_6_c], .int .i64 r1]) ∧ R r0_0 r0_1 r0_2 r0_3 r0_4 r0_5 r0_6_b r0_6_l r0_6_c r1 w := by
  unfold segm_Decode.RV at h
  split at h
  · exact ⟨_, _, _, _, _, _, _, _, _, _, rfl, h⟩
  · exact h.elim
/-- (*e2e/seg.SendBuf).Ack -/
def seg_SendBuf_Ack.Call (b : Option Addr) (a : Int) (w : World) (R : Int → World → Prop) : Prop :=
  Calls Try.prog 78 #[.pointer b, .int .i64 a] w fun e w' => ∃ r, e = .returned (.int .i64 r) ∧ R r w'
theorem seg_SendBuf_Ack.Call.mono {b a} {w : World} {R R' : Int → World → Prop} (h : seg_SendBuf_Ack.Call b a w R) (hr : ∀ r w', R r w' → R' r w') : seg_SendBuf_Ack.Call b a w R' :=
  Calls.mono h fun e w' he => by
    obtain ⟨r, h1, h2⟩ := he
    exact ⟨r, h1, hr r w' h2⟩
def seg_SendBuf_Ack.RV (R : Int → World → Prop) (v : Value) (w : World) : Prop := match v with
  | .int .i64 r => R r w
  | _ => False
theorem seg_SendBuf_Ack.RV_elim {R : Int → World → Prop} {v : Value} {w : World} (h : seg_SendBuf_Ack.RV R v w) : ∃ r, Ending.returned v = .returned (.int .i64 r) ∧ R r w := by
  unfold seg_SendBuf_Ack.RV at h
  split at h
  · exact ⟨_, rfl, h⟩
  · exact h.elim
/-- (*e2e/segm.SendBuf).Ack -/
def segm_SendBuf_Ack.Call (b : Option Addr) (a : Int) (w : World) (R : Int → World → Prop) : Prop :=
  Calls Try.prog 79 #[.pointer b, .int .i64 a] w fun e w' => ∃ r, e = .returned (.int .i64 r) ∧ R r w'
theorem segm_SendBuf_Ack.Call.mono {b a} {w : World} {R R' : Int → World → Prop} (h : segm_SendBuf_Ack.Call b a w R) (hr : ∀ r w', R r w' → R' r w') : segm_SendBuf_Ack.Call b a w R' :=
  Calls.mono h fun e w' he => by
    obtain ⟨r, h1, h2⟩ := he
    exact ⟨r, h1, hr r w' h2⟩
def segm_SendBuf_Ack.RV (R : Int → World → Prop) (v : Value) (w : World) : Prop := match v with
  | .int .i64 r => R r w
  | _ => False
theorem segm_SendBuf_Ack.RV_elim {R : Int → World → Prop} {v : Value} {w : World} (h : segm_SendBuf_Ack.RV R v w) : ∃ r, Ending.returned v = .returned (.int .i64 r) ∧ R r w := by
  unfold segm_SendBuf_Ack.RV at h
  split at h
  · exact ⟨_, rfl, h⟩
  · exact h.elim
/-- (*e2e/seg.RecvBuf).Insert -/
def seg_RecvBuf_Insert.Call (b : Option Addr) (seq : Int) (p_b : Option Addr) (p_l p_c : Nat) (w : World) (R : Int → World → Prop) : Prop :=
  Calls Try.prog 80 #[.pointer b, .int .i64 seq, .slice p_b p_l p_c] w fun e w' => ∃ r, e = .returned (.int .i64 r) ∧ R r w'
theorem seg_RecvBuf_Insert.Call.mono {b seq p_b p_l p_c} {w : World} {R R' : Int → World → Prop} (h : seg_RecvBuf_Insert.Call b seq p_b p_l p_c w R) (hr : ∀ r w', R r w' → R' r w') : seg_RecvBuf_Insert.Call b seq p_b p_l p_c w R' :=
  Calls.mono h fun e w' he => by
    obtain ⟨r, h1, h2⟩ := he
    exact ⟨r, h1, hr r w' h2⟩
def seg_RecvBuf_Insert.RV (R : Int → World → Prop) (v : Value) (w : World) : Prop := match v with
  | .int .i64 r => R r w
  | _ => False
theorem seg_RecvBuf_Insert.RV_elim {R : Int → World → Prop} {v : Value} {w : World} (h : seg_RecvBuf_Insert.RV R v w) : ∃ r, Ending.returned v = .returned (.int .i64 r) ∧ R r w := by
  unfold seg_RecvBuf_Insert.RV at h
  split at h
  · exact ⟨_, rfl, h⟩
  · exact h.elim
/-- (*e2e/segm.RecvBuf).Insert -/
def segm_RecvBuf_Insert.Call (b : Option Addr) (seq : Int) (p_b : Option Addr) (p_l p_c : Nat) (w : World) (R : Int → World → Prop) : Prop :=
  Calls Try.prog 81 #[.pointer b, .int .i64 seq, .slice p_b p_l p_c] w fun e w' => ∃ r, e = .returned (.int .i64 r) ∧ R r w'
theorem segm_RecvBuf_Insert.Call.mono {b seq p_b p_l p_c} {w : World} {R R' : Int → World → Prop} (h : segm_RecvBuf_Insert.Call b seq p_b p_l p_c w R) (hr : ∀ r w', R r w' → R' r w') : segm_RecvBuf_Insert.Call b seq p_b p_l p_c w R' :=
  Calls.mono h fun e w' he => by
    obtain ⟨r, h1, h2⟩ := he
    exact ⟨r, h1, hr r w' h2⟩
def segm_RecvBuf_Insert.RV (R : Int → World → Prop) (v : Value) (w : World) : Prop := match v with
  | .int .i64 r => R r w
  | _ => False
theorem segm_RecvBuf_Insert.RV_elim {R : Int → World → Prop} {v : Value} {w : World} (h : segm_RecvBuf_Insert.RV R v w) : ∃ r, Ending.returned v = .returned (.int .i64 r) ∧ R r w := by
  unfold segm_RecvBuf_Insert.RV at h
  split at h
  · exact ⟨_, rfl, h⟩
  · exact h.elim
/-- (*e2e/seg.sums).add -/
def seg_sums_add.Call (x : Option Addr) (b : Int) (w : World) (R : World → Prop) : Prop :=
  Calls Try.prog 82 #[.pointer x, .int .u8 b] w fun e w' => e = .returned (.tuple #[]) ∧ R w'
theorem seg_sums_add.Call.mono {x b} {w : World} {R R' : World → Prop} (h : seg_sums_add.Call x b w R) (hr : ∀ w', R w' → R'  w') : seg_sums_add.Call x b w R' :=
  Calls.mono h fun e w' he => by
    obtain ⟨h1, h2⟩ := he
    exact ⟨h1, hr  w' h2⟩
def seg_sums_add.RV (R : World → Prop) (v : Value) (w : World) : Prop := match v with
  | .tuple ⟨[]⟩ => R w
  | _ => False
theorem seg_sums_add.RV_elim {R : World → Prop} {v : Value} {w : World} (h : seg_sums_add.RV R v w) : Ending.returned v = .returned (.tuple #[]) ∧ R w := by
  unfold seg_sums_add.RV at h
  split at h
  · exact ⟨rfl, h⟩
  · exact h.elim
/-- (*e2e/seg.sums).all -/
def seg_sums_all.Call (x b_b : Option Addr) (b_l b_c : Nat) (w : World) (R : World → Prop) : Prop :=
  Calls Try.prog 83 #[.pointer x, .slice b_b b_l b_c] w fun e w' => e = .returned (.tuple #[]) ∧ R w'
theorem seg_sums_all.Call.mono {x b_b b_l b_c} {w : World} {R R' : World → Prop} (h : seg_sums_all.Call x b_b b_l b_c w R) (hr : ∀ w', R w' → R'  w') : seg_sums_all.Call x b_b b_l b_c w R' :=
  Calls.mono h fun e w' he => by
    obtain ⟨h1, h2⟩ := he
    exact ⟨h1, hr  w' h2⟩
def seg_sums_all.RV (R : World → Prop) (v : Value) (w : World) : Prop := match v with
  | .tuple ⟨[]⟩ => R w
  | _ => False
theorem seg_sums_all.RV_elim {R : World → Prop} {v : Value} {w : World} (h : seg_sums_all.RV R v w) : Ending.returned v = .returned (.tuple #[]) ∧ R w := by
  unfold seg_sums_all.RV at h
  split at h
  · exact ⟨rfl, h⟩
  · exact h.elim
/-- e2e/api.SeqDiff -/
def api_SeqDiff.Call (a b : Int) (w : World) (R : Int → World → Prop) : Prop :=
  Calls Try.prog 84 #[.int .i64 a, .int .i64 b] w fun e w' => ∃ r, e = .returned (.int .i64 r) ∧ R r w'
theorem api_SeqDiff.Call.mono {a b} {w : World} {R R' : Int → World → Prop} (h : api_SeqDiff.Call a b w R) (hr : ∀ r w', R r w' → R' r w') : api_SeqDiff.Call a b w R' :=
  Calls.mono h fun e w' he => by
    obtain ⟨r, h1, h2⟩ := he
    exact ⟨r, h1, hr r w' h2⟩
def api_SeqDiff.RV (R : Int → World → Prop) (v : Value) (w : World) : Prop := match v with
  | .int .i64 r => R r w
  | _ => False
theorem api_SeqDiff.RV_elim {R : Int → World → Prop} {v : Value} {w : World} (h : api_SeqDiff.RV R v w) : ∃ r, Ending.returned v = .returned (.int .i64 r) ∧ R r w := by
  unfold api_SeqDiff.RV at h
  split at h
  · exact ⟨_, rfl, h⟩
  · exact h.elim
end Go.Proofs.Qxb6500426a
