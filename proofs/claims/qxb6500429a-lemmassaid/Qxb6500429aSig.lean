import Derived.Test.Qxb6500429aProg
import Derived.Test.Qxb6500429aVcC
open Go.Vc
namespace Go.Proofs.Qxb6500429a
theorem Try.mixed : Try.prog.follows .mixedOrders = true := by kernel_rfl
abbrev T_int64 : TypeId := 2
abbrev T_int : TypeId := 3
abbrev T_bool : TypeId := 4
abbrev T_uint8 : TypeId := 5
abbrev T_string : TypeId := 9
abbrev T_uintptr : TypeId := 12
abbrev T_int32 : TypeId := 21
abbrev T_api_Op : TypeId := 33
abbrev T_kv_cell : TypeId := 42
abbrev T_kv_table : TypeId := 45
abbrev T_api_Errno : TypeId := 46
abbrev T_kv_session : TypeId := 48
abbrev T_kv_KV : TypeId := 51
abbrev T_api_Ans : TypeId := 54
abbrev T_kvm_KV : TypeId := 57
abbrev T_api_Cmd : TypeId := 71
abbrev T_uint64 : TypeId := 82
abbrev T_uint : TypeId := 83
abbrev T_kv_reader : TypeId := 86
abbrev T_uint32 : TypeId := 113
/-- e2e/kvlaw.Refines -/
def kvlaw_Refines.Call (script_b : Option Addr) (script_l script_c : Nat) (w : World) (R : Bool → World → Prop) : Prop :=
  Calls Try.prog 3 #[.slice script_b script_l script_c] w fun e w' => ∃ r, e = .returned (.bool r) ∧ R r w'
theorem kvlaw_Refines.Call.mono {script_b script_l script_c} {w : World} {R R' : Bool → World → Prop} (h : kvlaw_Refines.Call script_b script_l script_c w R) (hr : ∀ r w', R r w' → R' r w') : kvlaw_Refines.Call script_b script_l script_c w R' :=
  Calls.mono h fun e w' he => by
    obtain ⟨r, h1, h2⟩ := he
    exact ⟨r, h1, hr r w' h2⟩
def kvlaw_Refines.RV (R : Bool → World → Prop) (v : Value) (w : World) : Prop := match v with
  | .bool r => R r w
  | _ => False
theorem kvlaw_Refines.RV_elim {R : Bool → World → Prop} {v : Value} {w : World} (h : kvlaw_Refines.RV R v w) : ∃ r, Ending.returned v = .returned (.bool r) ∧ R r w := by
  unfold kvlaw_Refines.RV at h
  split at h
  · exact ⟨_, rfl, h⟩
  · exact h.elim
/-- e2e/kvlaw.RefinesSteady -/
def kvlaw_RefinesSteady.Call (script_b : Option Addr) (script_l script_c : Nat) (w : World) (R : Bool → World → Prop) : Prop :=
  Calls Try.prog 4 #[.slice script_b script_l script_c] w fun e w' => ∃ r, e = .returned (.bool r) ∧ R r w'
theorem kvlaw_RefinesSteady.Call.mono {script_b script_l script_c} {w : World} {R R' : Bool → World → Prop} (h : kvlaw_RefinesSteady.Call script_b script_l script_c w R) (hr : ∀ r w', R r w' → R' r w') : kvlaw_RefinesSteady.Call script_b script_l script_c w R' :=
  Calls.mono h fun e w' he => by
    obtain ⟨r, h1, h2⟩ := he
    exact ⟨r, h1, hr r w' h2⟩
def kvlaw_RefinesSteady.RV (R : Bool → World → Prop) (v : Value) (w : World) : Prop := match v with
  | .bool r => R r w
  | _ => False
theorem kvlaw_RefinesSteady.RV_elim {R : Bool → World → Prop} {v : Value} {w : World} (h : kvlaw_RefinesSteady.RV R v w) : ∃ r, Ending.returned v = .returned (.bool r) ∧ R r w := by
  unfold kvlaw_RefinesSteady.RV at h
  split at h
  · exact ⟨_, rfl, h⟩
  · exact h.elim
/-- e2e/kvlaw.RefinesQuiet -/
def kvlaw_RefinesQuiet.Call (script_b : Option Addr) (script_l script_c : Nat) (w : World) (R : Bool → World → Prop) : Prop :=
  Calls Try.prog 5 #[.slice script_b script_l script_c] w fun e w' => ∃ r, e = .returned (.bool r) ∧ R r w'
theorem kvlaw_RefinesQuiet.Call.mono {script_b script_l script_c} {w : World} {R R' : Bool → World → Prop} (h : kvlaw_RefinesQuiet.Call script_b script_l script_c w R) (hr : ∀ r w', R r w' → R' r w') : kvlaw_RefinesQuiet.Call script_b script_l script_c w R' :=
  Calls.mono h fun e w' he => by
    obtain ⟨r, h1, h2⟩ := he
    exact ⟨r, h1, hr r w' h2⟩
def kvlaw_RefinesQuiet.RV (R : Bool → World → Prop) (v : Value) (w : World) : Prop := match v with
  | .bool r => R r w
  | _ => False
theorem kvlaw_RefinesQuiet.RV_elim {R : Bool → World → Prop} {v : Value} {w : World} (h : kvlaw_RefinesQuiet.RV R v w) : ∃ r, Ending.returned v = .returned (.bool r) ∧ R r w := by
  unfold kvlaw_RefinesQuiet.RV at h
  split at h
  · exact ⟨_, rfl, h⟩
  · exact h.elim
/-- e2e/kvlaw.Lemmas -/
def kvlaw_Lemmas.Call (script_b : Option Addr) (script_l script_c : Nat) (w : World) (R : Bool → World → Prop) : Prop :=
  Calls Try.prog 6 #[.slice script_b script_l script_c] w fun e w' => ∃ r, e = .returned (.bool r) ∧ R r w'
theorem kvlaw_Lemmas.Call.mono {script_b script_l script_c} {w : World} {R R' : Bool → World → Prop} (h : kvlaw_Lemmas.Call script_b script_l script_c w R) (hr : ∀ r w', R r w' → R' r w') : kvlaw_Lemmas.Call script_b script_l script_c w R' :=
  Calls.mono h fun e w' he => by
    obtain ⟨r, h1, h2⟩ := he
    exact ⟨r, h1, hr r w' h2⟩
def kvlaw_Lemmas.RV (R : Bool → World → Prop) (v : Value) (w : World) : Prop := match v with
  | .bool r => R r w
  | _ => False
theorem kvlaw_Lemmas.RV_elim {R : Bool → World → Prop} {v : Value} {w : World} (h : kvlaw_Lemmas.RV R v w) : ∃ r, Ending.returned v = .returned (.bool r) ∧ R r w := by
  unfold kvlaw_Lemmas.RV at h
  split at h
  · exact ⟨_, rfl, h⟩
  · exact h.elim
/-- e2e/kvlaw.RefinesUpTo -/
def kvlaw_RefinesUpTo.Call (script_b : Option Addr) (script_l script_c : Nat) (w : World) (R : Int → World → Prop) : Prop :=
  Calls Try.prog 7 #[.slice script_b script_l script_c] w fun e w' => ∃ r, e = .returned (.int .i64 r) ∧ R r w'
theorem kvlaw_RefinesUpTo.Call.mono {script_b script_l script_c} {w : World} {R R' : Int → World → Prop} (h : kvlaw_RefinesUpTo.Call script_b script_l script_c w R) (hr : ∀ r w', R r w' → R' r w') : kvlaw_RefinesUpTo.Call script_b script_l script_c w R' :=
  Calls.mono h fun e w' he => by
    obtain ⟨r, h1, h2⟩ := he
    exact ⟨r, h1, hr r w' h2⟩
def kvlaw_RefinesUpTo.RV (R : Int → World → Prop) (v : Value) (w : World) : Prop := match v with
  | .int .i64 r => R r w
  | _ => False
theorem kvlaw_RefinesUpTo.RV_elim {R : Int → World → Prop} {v : Value} {w : World} (h : kvlaw_RefinesUpTo.RV R v w) : ∃ r, Ending.returned v = .returned (.int .i64 r) ∧ R r w := by
  unfold kvlaw_RefinesUpTo.RV at h
  split at h
  · exact ⟨_, rfl, h⟩
  · exact h.elim
/-- e2e/kvlaw.walk -/
def kvlaw_walk.Call (script_b : Option Addr) (script_l script_c : Nat) (quiet lemmas : Bool) (w : World) (R : Int → Int → World → Prop) : Prop :=
  Calls Try.prog 8 #[.slice script_b script_l script_c, .bool quiet, .bool lemmas] w fun e w' => ∃ r0 r1, e = .returned (.tuple #[.int .i64 r0, .int .i64 r1]) ∧ R r0 r1 w'
theorem kvlaw_walk.Call.mono {script_b script_l script_c quiet lemmas} {w : World} {R R' : Int → Int → World → Prop} (h : kvlaw_walk.Call script_b script_l script_c quiet lemmas w R) (hr : ∀ r0 r1 w', R r0 r1 w' → R' r0 r1 w') : kvlaw_walk.Call script_b script_l script_c quiet lemmas w R' :=
  Calls.mono h fun e w' he => by
    obtain ⟨r0, r1, h1, h2⟩ := he
    exact ⟨r0, r1, h1, hr r0 r1 w' h2⟩
def kvlaw_walk.RV (R : Int → Int → World → Prop) (v : Value) (w : World) : Prop := match v with
  | .tuple ⟨[.int .i64 r0, .int .i64 r1]⟩ => R r0 r1 w
  | _ => False
theorem kvlaw_walk.RV_elim {R : Int → Int → World → Prop} {v : Value} {w : World} (h : kvlaw_walk.RV R v w) : ∃ r0 r1, Ending.returned v = .returned (.tuple #[.int .i64 r0, .int .i64 r1]) ∧ R r0 r1 w := by
  unfold kvlaw_walk.RV at h
  split at h
  · exact ⟨_, _, rfl, h⟩
  · exact h.elim
/-- e2e/kv.New -/
def kv_New.Call  (w : World) (R : Option Addr → World → Prop) : Prop :=
  Calls Try.prog 9 #[] w fun e w' => ∃ r, e = .returned (.pointer r) ∧ R r w'
theorem kv_New.Call.mono {w : World} {R R' : Option Addr → World → Prop} (h : kv_New.Call w R) (hr : ∀ r w', R r w' → R' r w') : kv_New.Call w R' :=
  Calls.mono h fun e w' he => by
    obtain ⟨r, h1, h2⟩ := he
    exact ⟨r, h1, hr r w' h2⟩
def kv_New.RV (R : Option Addr → World → Prop) (v : Value) (w : World) : Prop := match v with
  | .pointer r => R r w
  | _ => False
theorem kv_New.RV_elim {R : Option Addr → World → Prop} {v : Value} {w : World} (h : kv_New.RV R v w) : ∃ r, Ending.returned v = .returned (.pointer r) ∧ R r w := by
  unfold kv_New.RV at h
  split at h
  · exact ⟨_, rfl, h⟩
  · exact h.elim
/-- e2e/kvm.New -/
def kvm_New.Call  (w : World) (R : Option Addr → World → Prop) : Prop :=
  Calls Try.prog 10 #[] w fun e w' => ∃ r, e = .returned (.pointer r) ∧ R r w'
theorem kvm_New.Call.mono {w : World} {R R' : Option Addr → World → Prop} (h : kvm_New.Call w R) (hr : ∀ r w', R r w' → R' r w') : kvm_New.Call w R' :=
  Calls.mono h fun e w' he => by
    obtain ⟨r, h1, h2⟩ := he
    exact ⟨r, h1, hr r w' h2⟩
def kvm_New.RV (R : Option Addr → World → Prop) (v : Value) (w : World) : Prop := match v with
  | .pointer r => R r w
  | _ => False
theorem kvm_New.RV_elim {R : Option Addr → World → Prop} {v : Value} {w : World} (h : kvm_New.RV R v w) : ∃ r, Ending.returned v = .returned (.pointer r) ∧ R r w := by
  unfold kvm_New.RV at h
  split at h
  · exact ⟨_, rfl, h⟩
  · exact h.elim
/-- e2e/kvlaw.Alike -/
def kvlaw_Alike.Call (x m0 : Option Addr) (s : ByteArray) (w : World) (R : Bool → World → Prop) : Prop :=
  Calls Try.prog 11 #[.pointer x, .pointer m0, .string s] w fun e w' => ∃ r, e = .returned (.bool r) ∧ R r w'
theorem kvlaw_Alike.Call.mono {x m0 s} {w : World} {R R' : Bool → World → Prop} (h : kvlaw_Alike.Call x m0 s w R) (hr : ∀ r w', R r w' → R' r w') : kvlaw_Alike.Call x m0 s w R' :=
  Calls.mono h fun e w' he => by
    obtain ⟨r, h1, h2⟩ := he
    exact ⟨r, h1, hr r w' h2⟩
def kvlaw_Alike.RV (R : Bool → World → Prop) (v : Value) (w : World) : Prop := match v with
  | .bool r => R r w
  | _ => False
theorem kvlaw_Alike.RV_elim {R : Bool → World → Prop} {v : Value} {w : World} (h : kvlaw_Alike.RV R v w) : ∃ r, Ending.returned v = .returned (.bool r) ∧ R r w := by
  unfold kvlaw_Alike.RV at h
  split at h
  · exact ⟨_, rfl, h⟩
  · exact h.elim
/-- (*e2e/kv.KV).Snapshot -/
def kv_KV_Snapshot.Call (k : Option Addr) (w : World) (R : ByteArray → World → Prop) : Prop :=
  Calls Try.prog 12 #[.pointer k] w fun e w' => ∃ r, e = .returned (.string r) ∧ R r w'
theorem kv_KV_Snapshot.Call.mono {k} {w : World} {R R' : ByteArray → World → Prop} (h : kv_KV_Snapshot.Call k w R) (hr : ∀ r w', R r w' → R' r w') : kv_KV_Snapshot.Call k w R' :=
  Calls.mono h fun e w' he => by
    obtain ⟨r, h1, h2⟩ := he
    exact ⟨r, h1, hr r w' h2⟩
def kv_KV_Snapshot.RV (R : ByteArray → World → Prop) (v : Value) (w : World) : Prop := match v with
  | .string r => R r w
  | _ => False
theorem kv_KV_Snapshot.RV_elim {R : ByteArray → World → Prop} {v : Value} {w : World} (h : kv_KV_Snapshot.RV R v w) : ∃ r, Ending.returned v = .returned (.string r) ∧ R r w := by
  unfold kv_KV_Snapshot.RV at h
  split at h
  · exact ⟨_, rfl, h⟩
  · exact h.elim
/-- e2e/kvlaw.Nums -/
def kvlaw_Nums.Call (x : Option Addr) (w : World) (R : Int → Int → Int → World → Prop) : Prop :=
  Calls Try.prog 13 #[.pointer x] w fun e w' => ∃ r_0 r_1 r_2, e = .returned (.agg #[.int .i64 r_0, .int .i64 r_1, .int .i64 r_2]) ∧ R r_0 r_1 r_2 w'
theorem kvlaw_Nums.Call.mono {x} {w : World} {R R' : Int → Int → Int → World → Prop} (h : kvlaw_Nums.Call x w R) (hr : ∀ r_0 r_1 r_2 w', R r_0 r_1 r_2 w' → R' r_0 r_1 r_2 w') : kvlaw_Nums.Call x w R' :=
  Calls.mono h fun e w' he => by
    obtain ⟨r_0, r_1, r_2, h1, h2⟩ := he
    exact ⟨r_0, r_1, r_2, h1, hr r_0 r_1 r_2 w' h2⟩
def kvlaw_Nums.RV (R : Int → Int → Int → World → Prop) (v : Value) (w : World) : Prop := match v with
  | .agg ⟨[.int .i64 r_0, .int .i64 r_1, .int .i64 r_2]⟩ => R r_0 r_1 r_2 w
  | _ => False
theorem kvlaw_Nums.RV_elim {R : Int → Int → Int → World → Prop} {v : Value} {w : World} (h : kvlaw_Nums.RV R v w) : ∃ r_0 r_1 r_2, Ending.returned v = .returned (.agg #[.int .i64 r_0, .int .i64 r_1, .int .i64 r_2]) ∧ R r_0 r_1 r_2 w := by
  unfold kvlaw_Nums.RV at h
  split at h
  · exact ⟨_, _, _, rfl, h⟩
  · exact h.elim
/-- (*e2e/kvm.KV).Snapshot -/
def kvm_KV_Snapshot.Call (k : Option Addr) (w : World) (R : ByteArray → World → Prop) : Prop :=
  Calls Try.prog 14 #[.pointer k] w fun e w' => ∃ r, e = .returned (.string r) ∧ R r w'
theorem kvm_KV_Snapshot.Call.mono {k} {w : World} {R R' : ByteArray → World → Prop} (h : kvm_KV_Snapshot.Call k w R) (hr : ∀ r w', R r w' → R' r w') : kvm_KV_Snapshot.Call k w R' :=
  Calls.mono h fun e w' he => by
    obtain ⟨r, h1, h2⟩ := he
    exact ⟨r, h1, hr r w' h2⟩
def kvm_KV_Snapshot.RV (R : ByteArray → World → Prop) (v : Value) (w : World) : Prop := match v with
  | .string r => R r w
  | _ => False
theorem kvm_KV_Snapshot.RV_elim {R : ByteArray → World → Prop} {v : Value} {w : World} (h : kvm_KV_Snapshot.RV R v w) : ∃ r, Ending.returned v = .returned (.string r) ∧ R r w := by
  unfold kvm_KV_Snapshot.RV at h
  split at h
  · exact ⟨_, rfl, h⟩
  · exact h.elim
/-- e2e/kvlaw.SameRestore -/
def kvlaw_SameRestore.Call (x m0 : Option Addr) (s : ByteArray) (w : World) (R : Bool → World → Prop) : Prop :=
  Calls Try.prog 15 #[.pointer x, .pointer m0, .string s] w fun e w' => ∃ r, e = .returned (.bool r) ∧ R r w'
theorem kvlaw_SameRestore.Call.mono {x m0 s} {w : World} {R R' : Bool → World → Prop} (h : kvlaw_SameRestore.Call x m0 s w R) (hr : ∀ r w', R r w' → R' r w') : kvlaw_SameRestore.Call x m0 s w R' :=
  Calls.mono h fun e w' he => by
    obtain ⟨r, h1, h2⟩ := he
    exact ⟨r, h1, hr r w' h2⟩
def kvlaw_SameRestore.RV (R : Bool → World → Prop) (v : Value) (w : World) : Prop := match v with
  | .bool r => R r w
  | _ => False
theorem kvlaw_SameRestore.RV_elim {R : Bool → World → Prop} {v : Value} {w : World} (h : kvlaw_SameRestore.RV R v w) : ∃ r, Ending.returned v = .returned (.bool r) ∧ R r w := by
  unfold kvlaw_SameRestore.RV at h
  split at h
  · exact ⟨_, rfl, h⟩
  · exact h.elim
/-- e2e/kvlaw.Play -/
def kvlaw_Play.Call (x m0 : Option Addr) (o_0 o_1 o_2 o_3 : Int) (o_4 o_5 : ByteArray) (w : World) (R : Bool → World → Prop) : Prop :=
  Calls Try.prog 16 #[.pointer x, .pointer m0, .agg #[.int .i64 o_0, .int .i64 o_1, .int .i64 o_2, .int .i64 o_3, .string o_4, .string o_5]] w fun e w' => ∃ r, e = .returned (.bool r) ∧ R r w'
theorem kvlaw_Play.Call.mono {x m0 o_0 o_1 o_2 o_3 o_4 o_5} {w : World} {R R' : Bool → World → Prop} (h : kvlaw_Play.Call x m0 o_0 o_1 o_2 o_3 o_4 o_5 w R) (hr : ∀ r w', R r w' → R' r w') : kvlaw_Play.Call x m0 o_0 o_1 o_2 o_3 o_4 o_5 w R' :=
  Calls.mono h fun e w' he => by
    obtain ⟨r, h1, h2⟩ := he
    exact ⟨r, h1, hr r w' h2⟩
def kvlaw_Play.RV (R : Bool → World → Prop) (v : Value) (w : World) : Prop := match v with
  | .bool r => R r w
  | _ => False
theorem kvlaw_Play.RV_elim {R : Bool → World → Prop} {v : Value} {w : World} (h : kvlaw_Play.RV R v w) : ∃ r, Ending.returned v = .returned (.bool r) ∧ R r w := by
  unfold kvlaw_Play.RV at h
  split at h
  · exact ⟨_, rfl, h⟩
  · exact h.elim
/-- e2e/kvlaw.Lemma -/
def kvlaw_Lemma.Call (x : Option Addr) (o_0 o_1 o_2 o_3 : Int) (o_4 o_5 was : ByteArray) (nums_0 nums_1 nums_2 : Int) (w : World) (R : Bool → World → Prop) : Prop :=
  Calls Try.prog 17 #[.pointer x, .agg #[.int .i64 o_0, .int .i64 o_1, .int .i64 o_2, .int .i64 o_3, .string o_4, .string o_5], .string was, .agg #[.int .i64 nums_0, .int .i64 nums_1, .int .i64 nums_2]] w fun e w' => ∃ r, e = .returned (.bool r) ∧ R r w'
theorem kvlaw_Lemma.Call.mono {x o_0 o_1 o_2 o_3 o_4 o_5 was nums_0 nums_1 nums_2} {w : World} {R R' : Bool → World → Prop} (h : kvlaw_Lemma.Call x o_0 o_1 o_2 o_3 o_4 o_5 was nums_0 nums_1 nums_2 w R) (hr : ∀ r w', R r w' → R' r w') : kvlaw_Lemma.Call x o_0 o_1 o_2 o_3 o_4 o_5 was nums_0 nums_1 nums_2 w R' :=
  Calls.mono h fun e w' he => by
    obtain ⟨r, h1, h2⟩ := he
    exact ⟨r, h1, hr r w' h2⟩
def kvlaw_Lemma.RV (R : Bool → World → Prop) (v : Value) (w : World) : Prop := match v with
  | .bool r => R r w
  | _ => False
theorem kvlaw_Lemma.RV_elim {R : Bool → World → Prop} {v : Value} {w : World} (h : kvlaw_Lemma.RV R v w) : ∃ r, Ending.returned v = .returned (.bool r) ∧ R r w := by
  unfold kvlaw_Lemma.RV at h
  split at h
  · exact ⟨_, rfl, h⟩
  · exact h.elim
/-- e2e/kvlaw.AlikeKeys -/
def kvlaw_AlikeKeys.Call (x m0 : Option Addr) (w : World) (R : Bool → World → Prop) : Prop :=
  Calls Try.prog 18 #[.pointer x, .pointer m0] w fun e w' => ∃ r, e = .returned (.bool r) ∧ R r w'
theorem kvlaw_AlikeKeys.Call.mono {x m0} {w : World} {R R' : Bool → World → Prop} (h : kvlaw_AlikeKeys.Call x m0 w R) (hr : ∀ r w', R r w' → R' r w') : kvlaw_AlikeKeys.Call x m0 w R' :=
  Calls.mono h fun e w' he => by
    obtain ⟨r, h1, h2⟩ := he
    exact ⟨r, h1, hr r w' h2⟩
def kvlaw_AlikeKeys.RV (R : Bool → World → Prop) (v : Value) (w : World) : Prop := match v with
  | .bool r => R r w
  | _ => False
theorem kvlaw_AlikeKeys.RV_elim {R : Bool → World → Prop} {v : Value} {w : World} (h : kvlaw_AlikeKeys.RV R v w) : ∃ r, Ending.returned v = .returned (.bool r) ∧ R r w := by
  unfold kvlaw_AlikeKeys.RV at h
  split at h
  · exact ⟨_, rfl, h⟩
  · exact h.elim
/-- e2e/kvlaw.SameVal -/
def kvlaw_SameVal.Call (x m0 : Option Addr) (key : ByteArray) (w : World) (R : Bool → World → Prop) : Prop :=
  Calls Try.prog 19 #[.pointer x, .pointer m0, .string key] w fun e w' => ∃ r, e = .returned (.bool r) ∧ R r w'
theorem kvlaw_SameVal.Call.mono {x m0 key} {w : World} {R R' : Bool → World → Prop} (h : kvlaw_SameVal.Call x m0 key w R) (hr : ∀ r w', R r w' → R' r w') : kvlaw_SameVal.Call x m0 key w R' :=
  Calls.mono h fun e w' he => by
    obtain ⟨r, h1, h2⟩ := he
    exact ⟨r, h1, hr r w' h2⟩
def kvlaw_SameVal.RV (R : Bool → World → Prop) (v : Value) (w : World) : Prop := match v with
  | .bool r => R r w
  | _ => False
theorem kvlaw_SameVal.RV_elim {R : Bool → World → Prop} {v : Value} {w : World} (h : kvlaw_SameVal.RV R v w) : ∃ r, Ending.returned v = .returned (.bool r) ∧ R r w := by
  unfold kvlaw_SameVal.RV at h
  split at h
  · exact ⟨_, rfl, h⟩
  · exact h.elim
/-- e2e/kvlaw.SameSess -/
def kvlaw_SameSess.Call (x m0 : Option Addr) (client : Int) (w : World) (R : Bool → World → Prop) : Prop :=
  Calls Try.prog 20 #[.pointer x, .pointer m0, .int .i64 client] w fun e w' => ∃ r, e = .returned (.bool r) ∧ R r w'
theorem kvlaw_SameSess.Call.mono {x m0 client} {w : World} {R R' : Bool → World → Prop} (h : kvlaw_SameSess.Call x m0 client w R) (hr : ∀ r w', R r w' → R' r w') : kvlaw_SameSess.Call x m0 client w R' :=
  Calls.mono h fun e w' he => by
    obtain ⟨r, h1, h2⟩ := he
    exact ⟨r, h1, hr r w' h2⟩
def kvlaw_SameSess.RV (R : Bool → World → Prop) (v : Value) (w : World) : Prop := match v with
  | .bool r => R r w
  | _ => False
theorem kvlaw_SameSess.RV_elim {R : Bool → World → Prop} {v : Value} {w : World} (h : kvlaw_SameSess.RV R v w) : ∃ r, Ending.returned v = .returned (.bool r) ∧ R r w := by
  unfold kvlaw_SameSess.RV at h
  split at h
  · exact ⟨_, rfl, h⟩
  · exact h.elim
/-- (*e2e/kv.table).sorted -/
def kv_table_sorted.Call (t : Option Addr) (w : World) (R : Int → Int → Int → Int → World → Prop) : Prop :=
  Calls Try.prog 21 #[.pointer t] w fun e w' => ∃ r_0 r_1 r_2 r_3, e = .returned (.agg #[.int .i64 r_0, .int .i64 r_1, .int .i64 r_2, .int .i64 r_3]) ∧ R r_0 r_1 r_2 r_3 w'
theorem kv_table_sorted.Call.mono {t} {w : World} {R R' : Int → Int → Int → Int → World → Prop} (h : kv_table_sorted.Call t w R) (hr : ∀ r_0 r_1 r_2 r_3 w', R r_0 r_1 r_2 r_3 w' → R' r_0 r_1 r_2 r_3 w') : kv_table_sorted.Call t w R' :=
  Calls.mono h fun e w' he => by
    obtain ⟨r_0, r_1, r_2, r_3, h1, h2⟩ := he
    exact ⟨r_0, r_1, r_2, r_3, h1, hr r_0 r_1 r_2 r_3 w' h2⟩
def kv_table_sorted.RV (R : Int → Int → Int → Int → World → Prop) (v : Value) (w : World) : Prop := match v with
  | .agg ⟨[.int .i64 r_0, .int .i64 r_1, .int .i64 r_2, .int .i64 r_3]⟩ => R r_0 r_1 r_2 r_3 w
  | _ => False
theorem kv_table_sorted.RV_elim {R : Int → Int → Int → Int → World → Prop} {v : Value} {w : World} (h : kv_table_sorted.RV R v w) : ∃ r_0 r_1 r_2 r_3, Ending.returned v = .returned (.agg #[.int .i64 r_0, .int .i64 r_1, .int .i64 r_2, .int .i64 r_3]) ∧ R r_0 r_1 r_2 r_3 w := by
  unfold kv_table_sorted.RV at h
  split at h
  · exact ⟨_, _, _, _, rfl, h⟩
  · exact h.elim
/-- e2e/kv.keyOf -/
def kv_keyOf.Call (c_0 c_1 c_2 c_3 c_4 c_5 c_6 c_7 : Int) (w : World) (R : ByteArray → World → Prop) : Prop :=
  Calls Try.prog 22 #[.agg #[.int .i64 c_0, .int .i64 c_1, .int .u8 c_2, .int .u8 c_3, .int .i64 c_4, .int .u8 c_5, .int .u8 c_6, .int .u8 c_7]] w fun e w' => ∃ r, e = .returned (.string r) ∧ R r w'
theorem kv_keyOf.Call.mono {c_0 c_1 c_2 c_3 c_4 c_5 c_6 c_7} {w : World} {R R' : ByteArray → World → Prop} (h : kv_keyOf.Call c_0 c_1 c_2 c_3 c_4 c_5 c_6 c_7 w R) (hr : ∀ r w', R r w' → R' r w') : kv_keyOf.Call c_0 c_1 c_2 c_3 c_4 c_5 c_6 c_7 w R' :=
  Calls.mono h fun e w' he => by
    obtain ⟨r, h1, h2⟩ := he
    exact ⟨r, h1, hr r w' h2⟩
def kv_keyOf.RV (R : ByteArray → World → Prop) (v : Value) (w : World) : Prop := match v with
  | .string r => R r w
  | _ => False
theorem kv_keyOf.RV_elim {R : ByteArray → World → Prop} {v : Value} {w : World} (h : kv_keyOf.RV R v w) : ∃ r, Ending.returned v = .returned (.string r) ∧ R r w := by
  unfold kv_keyOf.RV at h
  split at h
  · exact ⟨_, rfl, h⟩
  · exact h.elim
/-- e2e/kv.appendStr -/
def kv_appendStr.Call (b_b : Option Addr) (b_l b_c : Nat) (s : ByteArray) (w : World) (R : Option Addr → Nat → Nat → World → Prop) : Prop :=
  Calls Try.prog 23 #[.slice b_b b_l b_c, .string s] w fun e w' => ∃ r_b r_l r_c, e = .returned (.slice r_b r_l r_c) ∧ R r_b r_l r_c w'
theorem kv_appendStr.Call.mono {b_b b_l b_c s} {w : World} {R R' : Option Addr → Nat → Nat → World → Prop} (h : kv_appendStr.Call b_b b_l b_c s w R) (hr : ∀ r_b r_l r_c w', R r_b r_l r_c w' → R' r_b r_l r_c w') : kv_appendStr.Call b_b b_l b_c s w R' :=
  Calls.mono h fun e w' he => by
    obtain ⟨r_b, r_l, r_c, h1, h2⟩ := he
    exact ⟨r_b, r_l, r_c, h1, hr r_b r_l r_c w' h2⟩
def kv_appendStr.RV (R : Option Addr → Nat → Nat → World → Prop) (v : Value) (w : World) : Prop := match v with
  | .slice r_b r_l r_c => R r_b r_l r_c w
  | _ => False
theorem kv_appendStr.RV_elim {R : Option Addr → Nat → Nat → World → Prop} {v : Value} {w : World} (h : kv_appendStr.RV R v w) : ∃ r_b r_l r_c, Ending.returned v = .returned (.slice r_b r_l r_c) ∧ R r_b r_l r_c w := by
  unfold kv_appendStr.RV at h
  split at h
  · exact ⟨_, _, _, rfl, h⟩
  · exact h.elim
/-- e2e/kv.valOf -/
def kv_valOf.Call (c_0 c_1 c_2 c_3 c_4 c_5 c_6 c_7 : Int) (w : World) (R : ByteArray → World → Prop) : Prop :=
  Calls Try.prog 24 #[.agg #[.int .i64 c_0, .int .i64 c_1, .int .u8 c_2, .int .u8 c_3, .int .i64 c_4, .int .u8 c_5, .int .u8 c_6, .int .u8 c_7]] w fun e w' => ∃ r, e = .returned (.string r) ∧ R r w'
theorem kv_valOf.Call.mono {c_0 c_1 c_2 c_3 c_4 c_5 c_6 c_7} {w : World} {R R' : ByteArray → World → Prop} (h : kv_valOf.Call c_0 c_1 c_2 c_3 c_4 c_5 c_6 c_7 w R) (hr : ∀ r w', R r w' → R' r w') : kv_valOf.Call c_0 c_1 c_2 c_3 c_4 c_5 c_6 c_7 w R' :=
  Calls.mono h fun e w' he => by
    obtain ⟨r, h1, h2⟩ := he
    exact ⟨r, h1, hr r w' h2⟩
def kv_valOf.RV (R : ByteArray → World → Prop) (v : Value) (w : World) : Prop := match v with
  | .string r => R r w
  | _ => False
theorem kv_valOf.RV_elim {R : ByteArray → World → Prop} {v : Value} {w : World} (h : kv_valOf.RV R v w) : ∃ r, Ending.returned v = .returned (.string r) ∧ R r w := by
  unfold kv_valOf.RV at h
  split at h
  · exact ⟨_, rfl, h⟩
  · exact h.elim
/-- e2e/kv.ansOf -/
def kv_ansOf.Call (s_0 s_1 s_2 s_3 s_4 s_5 : Int) (w : World) (R : Int → ByteArray → World → Prop) : Prop :=
  Calls Try.prog 25 #[.agg #[.int .i64 s_0, .int .i64 s_1, .int .i64 s_2, .int .u8 s_3, .int .u8 s_4, .int .u8 s_5]] w fun e w' => ∃ r_0 r_1, e = .returned (.agg #[.int .i64 r_0, .string r_1]) ∧ R r_0 r_1 w'
theorem kv_ansOf.Call.mono {s_0 s_1 s_2 s_3 s_4 s_5} {w : World} {R R' : Int → ByteArray → World → Prop} (h : kv_ansOf.Call s_0 s_1 s_2 s_3 s_4 s_5 w R) (hr : ∀ r_0 r_1 w', R r_0 r_1 w' → R' r_0 r_1 w') : kv_ansOf.Call s_0 s_1 s_2 s_3 s_4 s_5 w R' :=
  Calls.mono h fun e w' he => by
    obtain ⟨r_0, r_1, h1, h2⟩ := he
    exact ⟨r_0, r_1, h1, hr r_0 r_1 w' h2⟩
def kv_ansOf.RV (R : Int → ByteArray → World → Prop) (v : Value) (w : World) : Prop := match v with
  | .agg ⟨[.int .i64 r_0, .string r_1]⟩ => R r_0 r_1 w
  | _ => False
theorem kv_ansOf.RV_elim {R : Int → ByteArray → World → Prop} {v : Value} {w : World} (h : kv_ansOf.RV R v w) : ∃ r_0 r_1, Ending.returned v = .returned (.agg #[.int .i64 r_0, .string r_1]) ∧ R r_0 r_1 w := by
  unfold kv_ansOf.RV at h
  split at h
  · exact ⟨_, _, rfl, h⟩
  · exact h.elim
/-- e2e/api.PutU64 -/
def api_PutU64.Call (b_b : Option Addr) (b_l b_c : Nat) (v_1 : Int) (w : World) (R : Option Addr → Nat → Nat → World → Prop) : Prop :=
  Calls Try.prog 26 #[.slice b_b b_l b_c, .int .i64 v_1] w fun e w' => ∃ r_b r_l r_c, e = .returned (.slice r_b r_l r_c) ∧ R r_b r_l r_c w'
theorem api_PutU64.Call.mono {b_b b_l b_c v_1} {w : World} {R R' : Option Addr → Nat → Nat → World → Prop} (h : api_PutU64.Call b_b b_l b_c v_1 w R) (hr : ∀ r_b r_l r_c w', R r_b r_l r_c w' → R' r_b r_l r_c w') : api_PutU64.Call b_b b_l b_c v_1 w R' :=
  Calls.mono h fun e w' he => by
    obtain ⟨r_b, r_l, r_c, h1, h2⟩ := he
    exact ⟨r_b, r_l, r_c, h1, hr r_b r_l r_c w' h2⟩
def api_PutU64.RV (R : Option Addr → Nat → Nat → World → Prop) (v : Value) (w : World) : Prop := match v with
  | .slice r_b r_l r_c => R r_b r_l r_c w
  | _ => False
theorem api_PutU64.RV_elim {R : Option Addr → Nat → Nat → World → Prop} {v : Value} {w : World} (h : api_PutU64.RV R v w) : ∃ r_b r_l r_c, Ending.returned v = .returned (.slice r_b r_l r_c) ∧ R r_b r_l r_c w := by
  unfold api_PutU64.RV at h
  split at h
  · exact ⟨_, _, _, rfl, h⟩
  · exact h.elim
/-- (*e2e/kv.KV).Sess -/
def kv_KV_Sess.Call (k : Option Addr) (client : Int) (w : World) (R : Int → Int → ByteArray → World → Prop) : Prop :=
  Calls Try.prog 27 #[.pointer k, .int .i64 client] w fun e w' => ∃ r0 r1_0 r1_1, e = .returned (.tuple #[.int .i64 r0, .agg #[.int .i64 r1_0, .string r1_1]]) ∧ R r0 r1_0 r1_1 w'
theorem kv_KV_Sess.Call.mono {k client} {w : World} {R R' : Int → Int → ByteArray → World → Prop} (h : kv_KV_Sess.Call k client w R) (hr : ∀ r0 r1_0 r1_1 w', R r0 r1_0 r1_1 w' → R' r0 r1_0 r1_1 w') : kv_KV_Sess.Call k client w R' :=
  Calls.mono h fun e w' he => by
    obtain ⟨r0, r1_0, r1_1, h1, h2⟩ := he
    exact ⟨r0, r1_0, r1_1, h1, hr r0 r1_0 r1_1 w' h2⟩
def kv_KV_Sess.RV (R : Int → Int → ByteArray → World → Prop) (v : Value) (w : World) : Prop := match v with
  | .tuple ⟨[.int .i64 r0, .agg ⟨[.int .i64 r1_0, .string r1_1]⟩]⟩ => R r0 r1_0 r1_1 w
  | _ => False
theorem kv_KV_Sess.RV_elim {R : Int → Int → ByteArray → World → Prop} {v : Value} {w : World} (h : kv_KV_Sess.RV R v w) : ∃ r0 r1_0 r1_1, Ending.returned v = .returned (.tuple #[.int .i64 r0, .agg #[.int .i64 r1_0, .string r1_1]]) ∧ R r0 r1_0 r1_1 w := by
  unfold kv_KV_Sess.RV at h
  split at h
  · exact ⟨_, _, _, rfl, h⟩
  · exact h.elim
/-- e2e/kvm.str -/
def kvm_str.Call (b_b : Option Addr) (b_l b_c : Nat) (s : ByteArray) (w : World) (R : Option Addr → Nat → Nat → World → Prop) : Prop :=
  Calls Try.prog 28 #[.slice b_b b_l b_c, .string s] w fun e w' => ∃ r_b r_l r_c, e = .returned (.slice r_b r_l r_c) ∧ R r_b r_l r_c w'
theorem kvm_str.Call.mono {b_b b_l b_c s} {w : World} {R R' : Option Addr → Nat → Nat → World → Prop} (h : kvm_str.Call b_b b_l b_c s w R) (hr : ∀ r_b r_l r_c w', R r_b r_l r_c w' → R' r_b r_l r_c w') : kvm_str.Call b_b b_l b_c s w R' :=
  Calls.mono h fun e w' he => by
    obtain ⟨r_b, r_l, r_c, h1, h2⟩ := he
    exact ⟨r_b, r_l, r_c, h1, hr r_b r_l r_c w' h2⟩
def kvm_str.RV (R : Option Addr → Nat → Nat → World → Prop) (v : Value) (w : World) : Prop := match v with
  | .slice r_b r_l r_c => R r_b r_l r_c w
  | _ => False
theorem kvm_str.RV_elim {R : Option Addr → Nat → Nat → World → Prop} {v : Value} {w : World} (h : kvm_str.RV R v w) : ∃ r_b r_l r_c, Ending.returned v = .returned (.slice r_b r_l r_c) ∧ R r_b r_l r_c w := by
  unfold kvm_str.RV at h
  split at h
  · exact ⟨_, _, _, rfl, h⟩
  · exact h.elim
/-- (*e2e/kv.KV).Restore -/
def kv_KV_Restore.Call (k : Option Addr) (s : ByteArray) (w : World) (R : Int → World → Prop) : Prop :=
  Calls Try.prog 29 #[.pointer k, .string s] w fun e w' => ∃ r, e = .returned (.int .i64 r) ∧ R r w'
theorem kv_KV_Restore.Call.mono {k s} {w : World} {R R' : Int → World → Prop} (h : kv_KV_Restore.Call k s w R) (hr : ∀ r w', R r w' → R' r w') : kv_KV_Restore.Call k s w R' :=
  Calls.mono h fun e w' he => by
    obtain ⟨r, h1, h2⟩ := he
    exact ⟨r, h1, hr r w' h2⟩
def kv_KV_Restore.RV (R : Int → World → Prop) (v : Value) (w : World) : Prop := match v with
  | .int .i64 r => R r w
  | _ => False
theorem kv_KV_Restore.RV_elim {R : Int → World → Prop} {v : Value} {w : World} (h : kv_KV_Restore.RV R v w) : ∃ r, Ending.returned v = .returned (.int .i64 r) ∧ R r w := by
  unfold kv_KV_Restore.RV at h
  split at h
  · exact ⟨_, rfl, h⟩
  · exact h.elim
/-- (*e2e/kvm.KV).Restore -/
def kvm_KV_Restore.Call (k : Option Addr) (s : ByteArray) (w : World) (R : Int → World → Prop) : Prop :=
  Calls Try.prog 30 #[.pointer k, .string s] w fun e w' => ∃ r, e = .returned (.int .i64 r) ∧ R r w'
theorem kvm_KV_Restore.Call.mono {k s} {w : World} {R R' : Int → World → Prop} (h : kvm_KV_Restore.Call k s w R) (hr : ∀ r w', R r w' → R' r w') : kvm_KV_Restore.Call k s w R' :=
  Calls.mono h fun e w' he => by
    obtain ⟨r, h1, h2⟩ := he
    exact ⟨r, h1, hr r w' h2⟩
def kvm_KV_Restore.RV (R : Int → World → Prop) (v : Value) (w : World) : Prop := match v with
  | .int .i64 r => R r w
  | _ => False
theorem kvm_KV_Restore.RV_elim {R : Int → World → Prop} {v : Value} {w : World} (h : kvm_KV_Restore.RV R v w) : ∃ r, Ending.returned v = .returned (.int .i64 r) ∧ R r w := by
  unfold kvm_KV_Restore.RV at h
  split at h
  · exact ⟨_, rfl, h⟩
  · exact h.elim
/-- e2e/kvlaw.SameApply -/
def kvlaw_SameApply.Call (x m0 : Option Addr) (data : ByteArray) (w : World) (R : Bool → World → Prop) : Prop :=
  Calls Try.prog 31 #[.pointer x, .pointer m0, .string data] w fun e w' => ∃ r, e = .returned (.bool r) ∧ R r w'
theorem kvlaw_SameApply.Call.mono {x m0 data} {w : World} {R R' : Bool → World → Prop} (h : kvlaw_SameApply.Call x m0 data w R) (hr : ∀ r w', R r w' → R' r w') : kvlaw_SameApply.Call x m0 data w R' :=
  Calls.mono h fun e w' he => by
    obtain ⟨r, h1, h2⟩ := he
    exact ⟨r, h1, hr r w' h2⟩
def kvlaw_SameApply.RV (R : Bool → World → Prop) (v : Value) (w : World) : Prop := match v with
  | .bool r => R r w
  | _ => False
theorem kvlaw_SameApply.RV_elim {R : Bool → World → Prop} {v : Value} {w : World} (h : kvlaw_SameApply.RV R v w) : ∃ r, Ending.returned v = .returned (.bool r) ∧ R r w := by
  unfold kvlaw_SameApply.RV at h
  split at h
  · exact ⟨_, rfl, h⟩
  · exact h.elim
/-- e2e/kvlaw.CmdOf -/
def kvlaw_CmdOf.Call (o_0 o_1 o_2 o_3 : Int) (o_4 o_5 : ByteArray) (w : World) (R : Int → Int → Int → ByteArray → ByteArray → ByteArray → World → Prop) : Prop :=
  Calls Try.prog 32 #[.agg #[.int .i64 o_0, .int .i64 o_1, .int .i64 o_2, .int .i64 o_3, .string o_4, .string o_5]] w fun e w' => ∃ r_0 r_1 r_2 r_3 r_4 r_5, e = .returned (.agg #[.int .i64 r_0, .int .i64 r_1, .int .i64 r_2, .string r_3, .string r_4, .string r_5]) ∧ R r_0 r_1 r_2 r_3 r_4 r_5 w'
theorem kvlaw_CmdOf.Call.mono {o_0 o_1 o_2 o_3 o_4 o_5} {w : World} {R R' : Int → Int → Int → ByteArray → ByteArray → ByteArray → World → Prop} (h : kvlaw_CmdOf.Call o_0 o_1 o_2 o_3 o_4 o_5 w R) (hr : ∀ r_0 r_1 r_2 r_3 r_4 r_5 w', R r_0 r_1 r_2 r_3 r_4 r_5 w' → R' r_0 r_1 r_2 r_3 r_4 r_5 w') : kvlaw_CmdOf.Call o_0 o_1 o_2 o_3 o_4 o_5 w R' :=
  Calls.mono h fun e w' he => by
    obtain ⟨r_0, r_1, r_2, r_3, r_4, r_5, h1, h2⟩ := he
    exact ⟨r_0, r_1, r_2, r_3, r_4, r_5, h1, hr r_0 r_1 r_2 r_3 r_4 r_5 w' h2⟩
def kvlaw_CmdOf.RV (R : Int → Int → Int → ByteArray → ByteArray → ByteArray → World → Prop) (v : Value) (w : World) : Prop := match v with
  | .agg ⟨[.int .i64 r_0, .int .i64 r_1, .int .i64 r_2, .string r_3, .string r_4, .string r_5]⟩ => R r_0 r_1 r_2 r_3 r_4 r_5 w
  | _ => False
theorem kvlaw_CmdOf.RV_elim {R : Int → Int → Int → ByteArray → ByteArray → ByteArray → World → Prop} {v : Value} {w : World} (h : kvlaw_CmdOf.RV R v w) : ∃ r_0 r_1 r_2 r_3 r_4 r_5, Ending.returned v = .returned (.agg #[.int .i64 r_0, .int .i64 r_1, .int .i64 r_2, .string r_3, .string r_4, .string r_5]) ∧ R r_0 r_1 r_2 r_3 r_4 r_5 w := by
  unfold kvlaw_CmdOf.RV at h
  split at h
  · exact ⟨_, _, _, _, _, _, rfl, h⟩
  · exact h.elim
/-- e2e/api.EncodeCmd -/
def api_EncodeCmd.Call (c_0 c_1 c_2 : Int) (c_3 c_4 c_5 : ByteArray) (w : World) (R : ByteArray → World → Prop) : Prop :=
  Calls Try.prog 33 #[.agg #[.int .i64 c_0, .int .i64 c_1, .int .i64 c_2, .string c_3, .string c_4, .string c_5]] w fun e w' => ∃ r, e = .returned (.string r) ∧ R r w'
theorem api_EncodeCmd.Call.mono {c_0 c_1 c_2 c_3 c_4 c_5} {w : World} {R R' : ByteArray → World → Prop} (h : api_EncodeCmd.Call c_0 c_1 c_2 c_3 c_4 c_5 w R) (hr : ∀ r w', R r w' → R' r w') : api_EncodeCmd.Call c_0 c_1 c_2 c_3 c_4 c_5 w R' :=
  Calls.mono h fun e w' he => by
    obtain ⟨r, h1, h2⟩ := he
    exact ⟨r, h1, hr r w' h2⟩
def api_EncodeCmd.RV (R : ByteArray → World → Prop) (v : Value) (w : World) : Prop := match v with
  | .string r => R r w
  | _ => False
theorem api_EncodeCmd.RV_elim {R : ByteArray → World → Prop} {v : Value} {w : World} (h : api_EncodeCmd.RV R v w) : ∃ r, Ending.returned v = .returned (.string r) ∧ R r w := by
  unfold api_EncodeCmd.RV at h
  split at h
  · exact ⟨_, rfl, h⟩
  · exact h.elim
/-- e2e/kvlaw.SameKeyAt -/
def kvlaw_SameKeyAt.Call (x m0 : Option Addr) (i : Int) (w : World) (R : Bool → World → Prop) : Prop :=
  Calls Try.prog 34 #[.pointer x, .pointer m0, .int .i64 i] w fun e w' => ∃ r, e = .returned (.bool r) ∧ R r w'
theorem kvlaw_SameKeyAt.Call.mono {x m0 i} {w : World} {R R' : Bool → World → Prop} (h : kvlaw_SameKeyAt.Call x m0 i w R) (hr : ∀ r w', R r w' → R' r w') : kvlaw_SameKeyAt.Call x m0 i w R' :=
  Calls.mono h fun e w' he => by
    obtain ⟨r, h1, h2⟩ := he
    exact ⟨r, h1, hr r w' h2⟩
def kvlaw_SameKeyAt.RV (R : Bool → World → Prop) (v : Value) (w : World) : Prop := match v with
  | .bool r => R r w
  | _ => False
theorem kvlaw_SameKeyAt.RV_elim {R : Bool → World → Prop} {v : Value} {w : World} (h : kvlaw_SameKeyAt.RV R v w) : ∃ r, Ending.returned v = .returned (.bool r) ∧ R r w := by
  unfold kvlaw_SameKeyAt.RV at h
  split at h
  · exact ⟨_, rfl, h⟩
  · exact h.elim
/-- e2e/kvlaw.SameLen -/
def kvlaw_SameLen.Call (x m0 : Option Addr) (w : World) (R : Bool → World → Prop) : Prop :=
  Calls Try.prog 35 #[.pointer x, .pointer m0] w fun e w' => ∃ r, e = .returned (.bool r) ∧ R r w'
theorem kvlaw_SameLen.Call.mono {x m0} {w : World} {R R' : Bool → World → Prop} (h : kvlaw_SameLen.Call x m0 w R) (hr : ∀ r w', R r w' → R' r w') : kvlaw_SameLen.Call x m0 w R' :=
  Calls.mono h fun e w' he => by
    obtain ⟨r, h1, h2⟩ := he
    exact ⟨r, h1, hr r w' h2⟩
def kvlaw_SameLen.RV (R : Bool → World → Prop) (v : Value) (w : World) : Prop := match v with
  | .bool r => R r w
  | _ => False
theorem kvlaw_SameLen.RV_elim {R : Bool → World → Prop} {v : Value} {w : World} (h : kvlaw_SameLen.RV R v w) : ∃ r, Ending.returned v = .returned (.bool r) ∧ R r w := by
  unfold kvlaw_SameLen.RV at h
  split at h
  · exact ⟨_, rfl, h⟩
  · exact h.elim
/-- e2e/kvlaw.SameSnapshot -/
def kvlaw_SameSnapshot.Call (x m0 : Option Addr) (w : World) (R : Bool → World → Prop) : Prop :=
  Calls Try.prog 36 #[.pointer x, .pointer m0] w fun e w' => ∃ r, e = .returned (.bool r) ∧ R r w'
theorem kvlaw_SameSnapshot.Call.mono {x m0} {w : World} {R R' : Bool → World → Prop} (h : kvlaw_SameSnapshot.Call x m0 w R) (hr : ∀ r w', R r w' → R' r w') : kvlaw_SameSnapshot.Call x m0 w R' :=
  Calls.mono h fun e w' he => by
    obtain ⟨r, h1, h2⟩ := he
    exact ⟨r, h1, hr r w' h2⟩
def kvlaw_SameSnapshot.RV (R : Bool → World → Prop) (v : Value) (w : World) : Prop := match v with
  | .bool r => R r w
  | _ => False
theorem kvlaw_SameSnapshot.RV_elim {R : Bool → World → Prop} {v : Value} {w : World} (h : kvlaw_SameSnapshot.RV R v w) : ∃ r, Ending.returned v = .returned (.bool r) ∧ R r w := by
  unfold kvlaw_SameSnapshot.RV at h
  split at h
  · exact ⟨_, rfl, h⟩
  · exact h.elim
/-- e2e/kvlaw.Sound -/
def kvlaw_Sound.Call (x : Option Addr) (w : World) (R : Bool → World → Prop) : Prop :=
  Calls Try.prog 37 #[.pointer x] w fun e w' => ∃ r, e = .returned (.bool r) ∧ R r w'
theorem kvlaw_Sound.Call.mono {x} {w : World} {R R' : Bool → World → Prop} (h : kvlaw_Sound.Call x w R) (hr : ∀ r w', R r w' → R' r w') : kvlaw_Sound.Call x w R' :=
  Calls.mono h fun e w' he => by
    obtain ⟨r, h1, h2⟩ := he
    exact ⟨r, h1, hr r w' h2⟩
def kvlaw_Sound.RV (R : Bool → World → Prop) (v : Value) (w : World) : Prop := match v with
  | .bool r => R r w
  | _ => False
theorem kvlaw_Sound.RV_elim {R : Bool → World → Prop} {v : Value} {w : World} (h : kvlaw_Sound.RV R v w) : ∃ r, Ending.returned v = .returned (.bool r) ∧ R r w := by
  unfold kvlaw_Sound.RV at h
  split at h
  · exact ⟨_, rfl, h⟩
  · exact h.elim
/-- e2e/api.DecodeCmd -/
def api_DecodeCmd.Call (s : ByteArray) (w : World) (R : Int → Int → Int → ByteArray → ByteArray → ByteArray → Int → World → Prop) : Prop :=
  Calls Try.prog 38 #[.string s] w fun e w' => ∃ r0_0 r0_1 r0_2 r0_3 r0_4 r0_5 r1, e = .returned (.tuple #[.agg #[.int .i64 r0_0, .int .i64 r0_1, .int .i64 r0_2, .string r0_3, .string r0_4, .string r0_5], .int .i64 r1]) ∧ R r0_0 r0_1 r0_2 r0_3 r0_4 r0_5 r1 w'
theorem api_DecodeCmd.Call.mono {s} {w : World} {R R' : Int → Int → Int → ByteArray → ByteArray → ByteArray → Int → World → Prop} (h : api_DecodeCmd.Call s w R) (hr : ∀ r0_0 r0_1 r0_2 r0_3 r0_4 r0_5 r1 w', R r0_0 r0_1 r0_2 r0_3 r0_4 r0_5 r1 w' → R' r0_0 r0_1 r0_2 r0_3 r0_4 r0_5 r1 w') : api_DecodeCmd.Call s w R' :=
  Calls.mono h fun e w' he => by
    obtain ⟨r0_0, r0_1, r0_2, r0_3, r0_4, r0_5, r1, h1, h2⟩ := he
    exact ⟨r0_0, r0_1, r0_2, r0_3, r0_4, r0_5, r1, h1, hr r0_0 r0_1 r0_2 r0_3 r0_4 r0_5 r1 w' h2⟩
def api_DecodeCmd.RV (R : Int → Int → Int → ByteArray → ByteArray → ByteArray → Int → World → Prop) (v : Value) (w : World) : Prop := match v with
  | .tuple ⟨[.agg ⟨[.int .i64 r0_0, .int .i64 r0_1, .int .i64 r0_2, .string r0_3, .string r0_4, .string r0_5]⟩, .int .i64 r1]⟩ => R r0_0 r0_1 r0_2 r0_3 r0_4 r0_5 r1 w
  | _ => False
theorem api_DecodeCmd.RV_elim {R : Int → Int → Int → ByteArray → ByteArray → ByteArray → Int → World → Prop} {v : Value} {w : World} (h : api_DecodeCmd.RV R v w) : ∃ r0_0 r0_1 r0_2 r0_3 r0_4 r0_5 r1, Ending.returned v = .returned (.tuple #[.agg #[.int .i64 r0_0, .int .i64 r0_1, .int .i64 r0_2, .string r0_3, .string r0_4, .string r0_5], .int .i64 r1]) ∧ R r0_0 r0_1 r0_2 r0_3 r0_4 r0_5 r1 w := by
  unfold api_DecodeCmd.RV at h
  split at h
  · exact ⟨_, _, _, _, _, _, _, rfl, h⟩
  · exact h.elim
/-- (*e2e/kvm.KV).Len -/
def kvm_KV_Len.Call (k : Option Addr) (w : World) (R : Int → World → Prop) : Prop :=
  Calls Try.prog 39 #[.pointer k] w fun e w' => ∃ r, e = .returned (.int .i64 r) ∧ R r w'
theorem kvm_KV_Len.Call.mono {k} {w : World} {R R' : Int → World → Prop} (h : kvm_KV_Len.Call k w R) (hr : ∀ r w', R r w' → R' r w') : kvm_KV_Len.Call k w R' :=
  Calls.mono h fun e w' he => by
    obtain ⟨r, h1, h2⟩ := he
    exact ⟨r, h1, hr r w' h2⟩
def kvm_KV_Len.RV (R : Int → World → Prop) (v : Value) (w : World) : Prop := match v with
  | .int .i64 r => R r w
  | _ => False
theorem kvm_KV_Len.RV_elim {R : Int → World → Prop} {v : Value} {w : World} (h : kvm_KV_Len.RV R v w) : ∃ r, Ending.returned v = .returned (.int .i64 r) ∧ R r w := by
  unfold kvm_KV_Len.RV at h
  split at h
  · exact ⟨_, rfl, h⟩
  · exact h.elim
/-- (*e2e/kvm.KV).KeyAt -/
def kvm_KV_KeyAt.Call (k : Option Addr) (i : Int) (w : World) (R : ByteArray → World → Prop) : Prop :=
  Calls Try.prog 40 #[.pointer k, .int .i64 i] w fun e w' => ∃ r, e = .returned (.string r) ∧ R r w'
theorem kvm_KV_KeyAt.Call.mono {k i} {w : World} {R R' : ByteArray → World → Prop} (h : kvm_KV_KeyAt.Call k i w R) (hr : ∀ r w', R r w' → R' r w') : kvm_KV_KeyAt.Call k i w R' :=
  Calls.mono h fun e w' he => by
    obtain ⟨r, h1, h2⟩ := he
    exact ⟨r, h1, hr r w' h2⟩
def kvm_KV_KeyAt.RV (R : ByteArray → World → Prop) (v : Value) (w : World) : Prop := match v with
  | .string r => R r w
  | _ => False
theorem kvm_KV_KeyAt.RV_elim {R : ByteArray → World → Prop} {v : Value} {w : World} (h : kvm_KV_KeyAt.RV R v w) : ∃ r, Ending.returned v = .returned (.string r) ∧ R r w := by
  unfold kvm_KV_KeyAt.RV at h
  split at h
  · exact ⟨_, rfl, h⟩
  · exact h.elim
/-- (*e2e/kv.KV).Val -/
def kv_KV_Val.Call (k : Option Addr) (key : ByteArray) (w : World) (R : ByteArray → Bool → World → Prop) : Prop :=
  Calls Try.prog 41 #[.pointer k, .string key] w fun e w' => ∃ r0 r1, e = .returned (.tuple #[.string r0, .bool r1]) ∧ R r0 r1 w'
theorem kv_KV_Val.Call.mono {k key} {w : World} {R R' : ByteArray → Bool → World → Prop} (h : kv_KV_Val.Call k key w R) (hr : ∀ r0 r1 w', R r0 r1 w' → R' r0 r1 w') : kv_KV_Val.Call k key w R' :=
  Calls.mono h fun e w' he => by
    obtain ⟨r0, r1, h1, h2⟩ := he
    exact ⟨r0, r1, h1, hr r0 r1 w' h2⟩
def kv_KV_Val.RV (R : ByteArray → Bool → World → Prop) (v : Value) (w : World) : Prop := match v with
  | .tuple ⟨[.string r0, .bool r1]⟩ => R r0 r1 w
  | _ => False
theorem kv_KV_Val.RV_elim {R : ByteArray → Bool → World → Prop} {v : Value} {w : World} (h : kv_KV_Val.RV R v w) : ∃ r0 r1, Ending.returned v = .returned (.tuple #[.string r0, .bool r1]) ∧ R r0 r1 w := by
  unfold kv_KV_Val.RV at h
  split at h
  · exact ⟨_, _, rfl, h⟩
  · exact h.elim
/-- (*e2e/kvm.KV).Val -/
def kvm_KV_Val.Call (k : Option Addr) (key : ByteArray) (w : World) (R : ByteArray → Bool → World → Prop) : Prop :=
  Calls Try.prog 42 #[.pointer k, .string key] w fun e w' => ∃ r0 r1, e = .returned (.tuple #[.string r0, .bool r1]) ∧ R r0 r1 w'
theorem kvm_KV_Val.Call.mono {k key} {w : World} {R R' : ByteArray → Bool → World → Prop} (h : kvm_KV_Val.Call k key w R) (hr : ∀ r0 r1 w', R r0 r1 w' → R' r0 r1 w') : kvm_KV_Val.Call k key w R' :=
  Calls.mono h fun e w' he => by
    obtain ⟨r0, r1, h1, h2⟩ := he
    exact ⟨r0, r1, h1, hr r0 r1 w' h2⟩
def kvm_KV_Val.RV (R : ByteArray → Bool → World → Prop) (v : Value) (w : World) : Prop := match v with
  | .tuple ⟨[.string r0, .bool r1]⟩ => R r0 r1 w
  | _ => False
theorem kvm_KV_Val.RV_elim {R : ByteArray → Bool → World → Prop} {v : Value} {w : World} (h : kvm_KV_Val.RV R v w) : ∃ r0 r1, Ending.returned v = .returned (.tuple #[.string r0, .bool r1]) ∧ R r0 r1 w := by
  unfold kvm_KV_Val.RV at h
  split at h
  · exact ⟨_, _, rfl, h⟩
  · exact h.elim
/-- (*e2e/kvm.KV).Sess -/
def kvm_KV_Sess.Call (k : Option Addr) (client : Int) (w : World) (R : Int → Int → ByteArray → World → Prop) : Prop :=
  Calls Try.prog 43 #[.pointer k, .int .i64 client] w fun e w' => ∃ r0 r1_0 r1_1, e = .returned (.tuple #[.int .i64 r0, .agg #[.int .i64 r1_0, .string r1_1]]) ∧ R r0 r1_0 r1_1 w'
theorem kvm_KV_Sess.Call.mono {k client} {w : World} {R R' : Int → Int → ByteArray → World → Prop} (h : kvm_KV_Sess.Call k client w R) (hr : ∀ r0 r1_0 r1_1 w', R r0 r1_0 r1_1 w' → R' r0 r1_0 r1_1 w') : kvm_KV_Sess.Call k client w R' :=
  Calls.mono h fun e w' he => by
    obtain ⟨r0, r1_0, r1_1, h1, h2⟩ := he
    exact ⟨r0, r1_0, r1_1, h1, hr r0 r1_0 r1_1 w' h2⟩
def kvm_KV_Sess.RV (R : Int → Int → ByteArray → World → Prop) (v : Value) (w : World) : Prop := match v with
  | .tuple ⟨[.int .i64 r0, .agg ⟨[.int .i64 r1_0, .string r1_1]⟩]⟩ => R r0 r1_0 r1_1 w
  | _ => False
theorem kvm_KV_Sess.RV_elim {R : Int → Int → ByteArray → World → Prop} {v : Value} {w : World} (h : kvm_KV_Sess.RV R v w) : ∃ r0 r1_0 r1_1, Ending.returned v = .returned (.tuple #[.int .i64 r0, .agg #[.int .i64 r1_0, .string r1_1]]) ∧ R r0 r1_0 r1_1 w := by
  unfold kvm_KV_Sess.RV at h
  split at h
  · exact ⟨_, _, _, rfl, h⟩
  · exact h.elim
/-- (*e2e/kv.reader).one -/
def kv_reader_one.Call (r : Option Addr) (w : World) (R : Int → World → Prop) : Prop :=
  Calls Try.prog 44 #[.pointer r] w fun e w' => ∃ r_1, e = .returned (.int .i64 r_1) ∧ R r_1 w'
theorem kv_reader_one.Call.mono {r} {w : World} {R R' : Int → World → Prop} (h : kv_reader_one.Call r w R) (hr : ∀ r_1 w', R r_1 w' → R' r_1 w') : kv_reader_one.Call r w R' :=
  Calls.mono h fun e w' he => by
    obtain ⟨r_1, h1, h2⟩ := he
    exact ⟨r_1, h1, hr r_1 w' h2⟩
def kv_reader_one.RV (R : Int → World → Prop) (v : Value) (w : World) : Prop := match v with
  | .int .i64 r_1 => R r_1 w
  | _ => False
theorem kv_reader_one.RV_elim {R : Int → World → Prop} {v : Value} {w : World} (h : kv_reader_one.RV R v w) : ∃ r_1, Ending.returned v = .returned (.int .i64 r_1) ∧ R r_1 w := by
  unfold kv_reader_one.RV at h
  split at h
  · exact ⟨_, rfl, h⟩
  · exact h.elim
/-- (*e2e/kv.reader).str -/
def kv_reader_str.Call (r : Option Addr) (lo hi : Int) (w : World) (R : ByteArray → World → Prop) : Prop :=
  Calls Try.prog 45 #[.pointer r, .int .i64 lo, .int .i64 hi] w fun e w' => ∃ r_1, e = .returned (.string r_1) ∧ R r_1 w'
theorem kv_reader_str.Call.mono {r lo hi} {w : World} {R R' : ByteArray → World → Prop} (h : kv_reader_str.Call r lo hi w R) (hr : ∀ r_1 w', R r_1 w' → R' r_1 w') : kv_reader_str.Call r lo hi w R' :=
  Calls.mono h fun e w' he => by
    obtain ⟨r_1, h1, h2⟩ := he
    exact ⟨r_1, h1, hr r_1 w' h2⟩
def kv_reader_str.RV (R : ByteArray → World → Prop) (v : Value) (w : World) : Prop := match v with
  | .string r_1 => R r_1 w
  | _ => False
theorem kv_reader_str.RV_elim {R : ByteArray → World → Prop} {v : Value} {w : World} (h : kv_reader_str.RV R v w) : ∃ r_1, Ending.returned v = .returned (.string r_1) ∧ R r_1 w := by
  unfold kv_reader_str.RV at h
  split at h
  · exact ⟨_, rfl, h⟩
  · exact h.elim
/-- (*e2e/kv.table).add -/
def kv_table_add.Call (t : Option Addr) (key val : ByteArray) (w : World) (R : World → Prop) : Prop :=
  Calls Try.prog 46 #[.pointer t, .string key, .string val] w fun e w' => e = .returned (.tuple #[]) ∧ R w'
theorem kv_table_add.Call.mono {t key val} {w : World} {R R' : World → Prop} (h : kv_table_add.Call t key val w R) (hr : ∀ w', R w' → R'  w') : kv_table_add.Call t key val w R' :=
  Calls.mono h fun e w' he => by
    obtain ⟨h1, h2⟩ := he
    exact ⟨h1, hr  w' h2⟩
def kv_table_add.RV (R : World → Prop) (v : Value) (w : World) : Prop := match v with
  | .tuple ⟨[]⟩ => R w
  | _ => False
theorem kv_table_add.RV_elim {R : World → Prop} {v : Value} {w : World} (h : kv_table_add.RV R v w) : Ending.returned v = .returned (.tuple #[]) ∧ R w := by
  unfold kv_table_add.RV at h
  split at h
  · exact ⟨rfl, h⟩
  · exact h.elim
/-- (*e2e/kv.reader).num -/
def kv_reader_num.Call (r : Option Addr) (w : World) (R : Int → World → Prop) : Prop :=
  Calls Try.prog 47 #[.pointer r] w fun e w' => ∃ r_1, e = .returned (.int .i64 r_1) ∧ R r_1 w'
theorem kv_reader_num.Call.mono {r} {w : World} {R R' : Int → World → Prop} (h : kv_reader_num.Call r w R) (hr : ∀ r_1 w', R r_1 w' → R' r_1 w') : kv_reader_num.Call r w R' :=
  Calls.mono h fun e w' he => by
    obtain ⟨r_1, h1, h2⟩ := he
    exact ⟨r_1, h1, hr r_1 w' h2⟩
def kv_reader_num.RV (R : Int → World → Prop) (v : Value) (w : World) : Prop := match v with
  | .int .i64 r_1 => R r_1 w
  | _ => False
theorem kv_reader_num.RV_elim {R : Int → World → Prop} {v : Value} {w : World} (h : kv_reader_num.RV R v w) : ∃ r_1, Ending.returned v = .returned (.int .i64 r_1) ∧ R r_1 w := by
  unfold kv_reader_num.RV at h
  split at h
  · exact ⟨_, rfl, h⟩
  · exact h.elim
/-- e2e/kv.mkSession -/
def kv_mkSession.Call (seq a_0 : Int) (a_1 : ByteArray) (w : World) (R : Int → Int → Int → Int → Int → Int → World → Prop) : Prop :=
  Calls Try.prog 48 #[.int .i64 seq, .agg #[.int .i64 a_0, .string a_1]] w fun e w' => ∃ r_0 r_1 r_2 r_3 r_4 r_5, e = .returned (.agg #[.int .i64 r_0, .int .i64 r_1, .int .i64 r_2, .int .u8 r_3, .int .u8 r_4, .int .u8 r_5]) ∧ R r_0 r_1 r_2 r_3 r_4 r_5 w'
theorem kv_mkSession.Call.mono {seq a_0 a_1} {w : World} {R R' : Int → Int → Int → Int → Int → Int → World → Prop} (h : kv_mkSession.Call seq a_0 a_1 w R) (hr : ∀ r_0 r_1 r_2 r_3 r_4 r_5 w', R r_0 r_1 r_2 r_3 r_4 r_5 w' → R' r_0 r_1 r_2 r_3 r_4 r_5 w') : kv_mkSession.Call seq a_0 a_1 w R' :=
  Calls.mono h fun e w' he => by
    obtain ⟨r_0, r_1, r_2, r_3, r_4, r_5, h1, h2⟩ := he
    exact ⟨r_0, r_1, r_2, r_3, r_4, r_5, h1, hr r_0 r_1 r_2 r_3 r_4 r_5 w' h2⟩
def kv_mkSession.RV (R : Int → Int → Int → Int → Int → Int → World → Prop) (v : Value) (w : World) : Prop := match v with
  | .agg ⟨[.int .i64 r_0, .int .i64 r_1, .int .i64 r_2, .int .u8 r_3, .int .u8 r_4, .int .u8 r_5]⟩ => R r_0 r_1 r_2 r_3 r_4 r_5 w
  | _ => False
theorem kv_mkSession.RV_elim {R : Int → Int → Int → Int → Int → Int → World → Prop} {v : Value} {w : World} (h : kv_mkSession.RV R v w) : ∃ r_0 r_1 r_2 r_3 r_4 r_5, Ending.returned v = .returned (.agg #[.int .i64 r_0, .int .i64 r_1, .int .i64 r_2, .int .u8 r_3, .int .u8 r_4, .int .u8 r_5]) ∧ R r_0 r_1 r_2 r_3 r_4 r_5 w := by
  unfold kv_mkSession.RV at h
  split at h
  · exact ⟨_, _, _, _, _, _, rfl, h⟩
  · exact h.elim
/-- e2e/kvm.take -/
def kvm_take.Call (s : ByteArray) (p lo hi : Int) (w : World) (R : ByteArray → Int → World → Prop) : Prop :=
  Calls Try.prog 49 #[.string s, .int .i64 p, .int .i64 lo, .int .i64 hi] w fun e w' => ∃ r0 r1, e = .returned (.tuple #[.string r0, .int .i64 r1]) ∧ R r0 r1 w'
theorem kvm_take.Call.mono {s p lo hi} {w : World} {R R' : ByteArray → Int → World → Prop} (h : kvm_take.Call s p lo hi w R) (hr : ∀ r0 r1 w', R r0 r1 w' → R' r0 r1 w') : kvm_take.Call s p lo hi w R' :=
  Calls.mono h fun e w' he => by
    obtain ⟨r0, r1, h1, h2⟩ := he
    exact ⟨r0, r1, h1, hr r0 r1 w' h2⟩
def kvm_take.RV (R : ByteArray → Int → World → Prop) (v : Value) (w : World) : Prop := match v with
  | .tuple ⟨[.string r0, .int .i64 r1]⟩ => R r0 r1 w
  | _ => False
theorem kvm_take.RV_elim {R : ByteArray → Int → World → Prop} {v : Value} {w : World} (h : kvm_take.RV R v w) : ∃ r0 r1, Ending.returned v = .returned (.tuple #[.string r0, .int .i64 r1]) ∧ R r0 r1 w := by
  unfold kvm_take.RV at h
  split at h
  · exact ⟨_, _, rfl, h⟩
  · exact h.elim
/-- e2e/api.GetU64 -/
def api_GetU64.Call (b : ByteArray) (off : Int) (w : World) (R : Int → World → Prop) : Prop :=
  Calls Try.prog 50 #[.string b, .int .i64 off] w fun e w' => ∃ r, e = .returned (.int .i64 r) ∧ R r w'
theorem api_GetU64.Call.mono {b off} {w : World} {R R' : Int → World → Prop} (h : api_GetU64.Call b off w R) (hr : ∀ r w', R r w' → R' r w') : api_GetU64.Call b off w R' :=
  Calls.mono h fun e w' he => by
    obtain ⟨r, h1, h2⟩ := he
    exact ⟨r, h1, hr r w' h2⟩
def api_GetU64.RV (R : Int → World → Prop) (v : Value) (w : World) : Prop := match v with
  | .int .i64 r => R r w
  | _ => False
theorem api_GetU64.RV_elim {R : Int → World → Prop} {v : Value} {w : World} (h : api_GetU64.RV R v w) : ∃ r, Ending.returned v = .returned (.int .i64 r) ∧ R r w := by
  unfold api_GetU64.RV at h
  split at h
  · exact ⟨_, rfl, h⟩
  · exact h.elim
/-- (*e2e/kv.KV).Apply -/
def kv_KV_Apply.Call (k : Option Addr) (data : ByteArray) (w : World) (R : Int → ByteArray → World → Prop) : Prop :=
  Calls Try.prog 51 #[.pointer k, .string data] w fun e w' => ∃ r_0 r_1, e = .returned (.agg #[.int .i64 r_0, .string r_1]) ∧ R r_0 r_1 w'
theorem kv_KV_Apply.Call.mono {k data} {w : World} {R R' : Int → ByteArray → World → Prop} (h : kv_KV_Apply.Call k data w R) (hr : ∀ r_0 r_1 w', R r_0 r_1 w' → R' r_0 r_1 w') : kv_KV_Apply.Call k data w R' :=
  Calls.mono h fun e w' he => by
    obtain ⟨r_0, r_1, h1, h2⟩ := he
    exact ⟨r_0, r_1, h1, hr r_0 r_1 w' h2⟩
def kv_KV_Apply.RV (R : Int → ByteArray → World → Prop) (v : Value) (w : World) : Prop := match v with
  | .agg ⟨[.int .i64 r_0, .string r_1]⟩ => R r_0 r_1 w
  | _ => False
theorem kv_KV_Apply.RV_elim {R : Int → ByteArray → World → Prop} {v : Value} {w : World} (h : kv_KV_Apply.RV R v w) : ∃ r_0 r_1, Ending.returned v = .returned (.agg #[.int .i64 r_0, .string r_1]) ∧ R r_0 r_1 w := by
  unfold kv_KV_Apply.RV at h
  split at h
  · exact ⟨_, _, rfl, h⟩
  · exact h.elim
/-- (*e2e/kvm.KV).Apply -/
def kvm_KV_Apply.Call (k : Option Addr) (data : ByteArray) (w : World) (R : Int → ByteArray → World → Prop) : Prop :=
  Calls Try.prog 52 #[.pointer k, .string data] w fun e w' => ∃ r_0 r_1, e = .returned (.agg #[.int .i64 r_0, .string r_1]) ∧ R r_0 r_1 w'
theorem kvm_KV_Apply.Call.mono {k data} {w : World} {R R' : Int → ByteArray → World → Prop} (h : kvm_KV_Apply.Call k data w R) (hr : ∀ r_0 r_1 w', R r_0 r_1 w' → R' r_0 r_1 w') : kvm_KV_Apply.Call k data w R' :=
  Calls.mono h fun e w' he => by
    obtain ⟨r_0, r_1, h1, h2⟩ := he
    exact ⟨r_0, r_1, h1, hr r_0 r_1 w' h2⟩
def kvm_KV_Apply.RV (R : Int → ByteArray → World → Prop) (v : Value) (w : World) : Prop := match v with
  | .agg ⟨[.int .i64 r_0, .string r_1]⟩ => R r_0 r_1 w
  | _ => False
theorem kvm_KV_Apply.RV_elim {R : Int → ByteArray → World → Prop} {v : Value} {w : World} (h : kvm_KV_Apply.RV R v w) : ∃ r_0 r_1, Ending.returned v = .returned (.agg #[.int .i64 r_0, .string r_1]) ∧ R r_0 r_1 w := by
  unfold kvm_KV_Apply.RV at h
  split at h
  · exact ⟨_, _, rfl, h⟩
  · exact h.elim
/-- e2e/kvlaw.SameAns -/
def kvlaw_SameAns.Call (a_0 : Int) (a_1 : ByteArray) (b_0 : Int) (b_1 : ByteArray) (w : World) (R : Bool → World → Prop) : Prop :=
  Calls Try.prog 53 #[.agg #[.int .i64 a_0, .string a_1], .agg #[.int .i64 b_0, .string b_1]] w fun e w' => ∃ r, e = .returned (.bool r) ∧ R r w'
theorem kvlaw_SameAns.Call.mono {a_0 a_1 b_0 b_1} {w : World} {R R' : Bool → World → Prop} (h : kvlaw_SameAns.Call a_0 a_1 b_0 b_1 w R) (hr : ∀ r w', R r w' → R' r w') : kvlaw_SameAns.Call a_0 a_1 b_0 b_1 w R' :=
  Calls.mono h fun e w' he => by
    obtain ⟨r, h1, h2⟩ := he
    exact ⟨r, h1, hr r w' h2⟩
def kvlaw_SameAns.RV (R : Bool → World → Prop) (v : Value) (w : World) : Prop := match v with
  | .bool r => R r w
  | _ => False
theorem kvlaw_SameAns.RV_elim {R : Bool → World → Prop} {v : Value} {w : World} (h : kvlaw_SameAns.RV R v w) : ∃ r, Ending.returned v = .returned (.bool r) ∧ R r w := by
  unfold kvlaw_SameAns.RV at h
  split at h
  · exact ⟨_, rfl, h⟩
  · exact h.elim
/-- e2e/kvlaw.SplitBar -/
def kvlaw_SplitBar.Call (t : ByteArray) (w : World) (R : ByteArray → ByteArray → World → Prop) : Prop :=
  Calls Try.prog 54 #[.string t] w fun e w' => ∃ r0 r1, e = .returned (.tuple #[.string r0, .string r1]) ∧ R r0 r1 w'
theorem kvlaw_SplitBar.Call.mono {t} {w : World} {R R' : ByteArray → ByteArray → World → Prop} (h : kvlaw_SplitBar.Call t w R) (hr : ∀ r0 r1 w', R r0 r1 w' → R' r0 r1 w') : kvlaw_SplitBar.Call t w R' :=
  Calls.mono h fun e w' he => by
    obtain ⟨r0, r1, h1, h2⟩ := he
    exact ⟨r0, r1, h1, hr r0 r1 w' h2⟩
def kvlaw_SplitBar.RV (R : ByteArray → ByteArray → World → Prop) (v : Value) (w : World) : Prop := match v with
  | .tuple ⟨[.string r0, .string r1]⟩ => R r0 r1 w
  | _ => False
theorem kvlaw_SplitBar.RV_elim {R : ByteArray → ByteArray → World → Prop} {v : Value} {w : World} (h : kvlaw_SplitBar.RV R v w) : ∃ r0 r1, Ending.returned v = .returned (.tuple #[.string r0, .string r1]) ∧ R r0 r1 w := by
  unfold kvlaw_SplitBar.RV at h
  split at h
  · exact ⟨_, _, rfl, h⟩
  · exact h.elim
/-- e2e/api.CmdOK -/
def api_CmdOK.Call (c_0 c_1 c_2 : Int) (c_3 c_4 c_5 : ByteArray) (w : World) (R : Bool → World → Prop) : Prop :=
  Calls Try.prog 55 #[.agg #[.int .i64 c_0, .int .i64 c_1, .int .i64 c_2, .string c_3, .string c_4, .string c_5]] w fun e w' => ∃ r, e = .returned (.bool r) ∧ R r w'
theorem api_CmdOK.Call.mono {c_0 c_1 c_2 c_3 c_4 c_5} {w : World} {R R' : Bool → World → Prop} (h : api_CmdOK.Call c_0 c_1 c_2 c_3 c_4 c_5 w R) (hr : ∀ r w', R r w' → R' r w') : api_CmdOK.Call c_0 c_1 c_2 c_3 c_4 c_5 w R' :=
  Calls.mono h fun e w' he => by
    obtain ⟨r, h1, h2⟩ := he
    exact ⟨r, h1, hr r w' h2⟩
def api_CmdOK.RV (R : Bool → World → Prop) (v : Value) (w : World) : Prop := match v with
  | .bool r => R r w
  | _ => False
theorem api_CmdOK.RV_elim {R : Bool → World → Prop} {v : Value} {w : World} (h : api_CmdOK.RV R v w) : ∃ r, Ending.returned v = .returned (.bool r) ∧ R r w := by
  unfold api_CmdOK.RV at h
  split at h
  · exact ⟨_, rfl, h⟩
  · exact h.elim
/-- e2e/api.putStr -/
def api_putStr.Call (b_b : Option Addr) (b_l b_c : Nat) (s : ByteArray) (w : World) (R : Option Addr → Nat → Nat → World → Prop) : Prop :=
  Calls Try.prog 56 #[.slice b_b b_l b_c, .string s] w fun e w' => ∃ r_b r_l r_c, e = .returned (.slice r_b r_l r_c) ∧ R r_b r_l r_c w'
theorem api_putStr.Call.mono {b_b b_l b_c s} {w : World} {R R' : Option Addr → Nat → Nat → World → Prop} (h : api_putStr.Call b_b b_l b_c s w R) (hr : ∀ r_b r_l r_c w', R r_b r_l r_c w' → R' r_b r_l r_c w') : api_putStr.Call b_b b_l b_c s w R' :=
  Calls.mono h fun e w' he => by
    obtain ⟨r_b, r_l, r_c, h1, h2⟩ := he
    exact ⟨r_b, r_l, r_c, h1, hr r_b r_l r_c w' h2⟩
def api_putStr.RV (R : Option Addr → Nat → Nat → World → Prop) (v : Value) (w : World) : Prop := match v with
  | .slice r_b r_l r_c => R r_b r_l r_c w
  | _ => False
theorem api_putStr.RV_elim {R : Option Addr → Nat → Nat → World → Prop} {v : Value} {w : World} (h : api_putStr.RV R v w) : ∃ r_b r_l r_c, Ending.returned v = .returned (.slice r_b r_l r_c) ∧ R r_b r_l r_c w := by
  unfold api_putStr.RV at h
  split at h
  · exact ⟨_, _, _, rfl, h⟩
  · exact h.elim
/-- (*e2e/kv.KV).KeyAt -/
def kv_KV_KeyAt.Call (k : Option Addr) (i : Int) (w : World) (R : ByteArray → World → Prop) : Prop :=
  Calls Try.prog 57 #[.pointer k, .int .i64 i] w fun e w' => ∃ r, e = .returned (.string r) ∧ R r w'
theorem kv_KV_KeyAt.Call.mono {k i} {w : World} {R R' : ByteArray → World → Prop} (h : kv_KV_KeyAt.Call k i w R) (hr : ∀ r w', R r w' → R' r w') : kv_KV_KeyAt.Call k i w R' :=
  Calls.mono h fun e w' he => by
    obtain ⟨r, h1, h2⟩ := he
    exact ⟨r, h1, hr r w' h2⟩
def kv_KV_KeyAt.RV (R : ByteArray → World → Prop) (v : Value) (w : World) : Prop := match v with
  | .string r => R r w
  | _ => False
theorem kv_KV_KeyAt.RV_elim {R : ByteArray → World → Prop} {v : Value} {w : World} (h : kv_KV_KeyAt.RV R v w) : ∃ r, Ending.returned v = .returned (.string r) ∧ R r w := by
  unfold kv_KV_KeyAt.RV at h
  split at h
  · exact ⟨_, rfl, h⟩
  · exact h.elim
/-- (*e2e/kv.KV).Len -/
def kv_KV_Len.Call (k : Option Addr) (w : World) (R : Int → World → Prop) : Prop :=
  Calls Try.prog 58 #[.pointer k] w fun e w' => ∃ r, e = .returned (.int .i64 r) ∧ R r w'
theorem kv_KV_Len.Call.mono {k} {w : World} {R R' : Int → World → Prop} (h : kv_KV_Len.Call k w R) (hr : ∀ r w', R r w' → R' r w') : kv_KV_Len.Call k w R' :=
  Calls.mono h fun e w' he => by
    obtain ⟨r, h1, h2⟩ := he
    exact ⟨r, h1, hr r w' h2⟩
def kv_KV_Len.RV (R : Int → World → Prop) (v : Value) (w : World) : Prop := match v with
  | .int .i64 r => R r w
  | _ => False
theorem kv_KV_Len.RV_elim {R : Int → World → Prop} {v : Value} {w : World} (h : kv_KV_Len.RV R v w) : ∃ r, Ending.returned v = .returned (.int .i64 r) ∧ R r w := by
  unfold kv_KV_Len.RV at h
  split at h
  · exact ⟨_, rfl, h⟩
  · exact h.elim
/-- (*e2e/kv.KV).Check -/
def kv_KV_Check.Call (k : Option Addr) (w : World) (R : ByteArray → World → Prop) : Prop :=
  Calls Try.prog 59 #[.pointer k] w fun e w' => ∃ r, e = .returned (.string r) ∧ R r w'
theorem kv_KV_Check.Call.mono {k} {w : World} {R R' : ByteArray → World → Prop} (h : kv_KV_Check.Call k w R) (hr : ∀ r w', R r w' → R' r w') : kv_KV_Check.Call k w R' :=
  Calls.mono h fun e w' he => by
    obtain ⟨r, h1, h2⟩ := he
    exact ⟨r, h1, hr r w' h2⟩
def kv_KV_Check.RV (R : ByteArray → World → Prop) (v : Value) (w : World) : Prop := match v with
  | .string r => R r w
  | _ => False
theorem kv_KV_Check.RV_elim {R : ByteArray → World → Prop} {v : Value} {w : World} (h : kv_KV_Check.RV R v w) : ∃ r, Ending.returned v = .returned (.string r) ∧ R r w := by
  unfold kv_KV_Check.RV at h
  split at h
  · exact ⟨_, rfl, h⟩
  · exact h.elim
/-- (*e2e/kv.table).find -/
def kv_table_find.Call (t : Option Addr) (key : ByteArray) (w : World) (R : Int → World → Prop) : Prop :=
  Calls Try.prog 60 #[.pointer t, .string key] w fun e w' => ∃ r, e = .returned (.int .i64 r) ∧ R r w'
theorem kv_table_find.Call.mono {t key} {w : World} {R R' : Int → World → Prop} (h : kv_table_find.Call t key w R) (hr : ∀ r w', R r w' → R' r w') : kv_table_find.Call t key w R' :=
  Calls.mono h fun e w' he => by
    obtain ⟨r, h1, h2⟩ := he
    exact ⟨r, h1, hr r w' h2⟩
def kv_table_find.RV (R : Int → World → Prop) (v : Value) (w : World) : Prop := match v with
  | .int .i64 r => R r w
  | _ => False
theorem kv_table_find.RV_elim {R : Int → World → Prop} {v : Value} {w : World} (h : kv_table_find.RV R v w) : ∃ r, Ending.returned v = .returned (.int .i64 r) ∧ R r w := by
  unfold kv_table_find.RV at h
  split at h
  · exact ⟨_, rfl, h⟩
  · exact h.elim
/-- (*e2e/kvm.KV).find -/
def kvm_KV_find.Call (k : Option Addr) (key : ByteArray) (w : World) (R : Int → World → Prop) : Prop :=
  Calls Try.prog 61 #[.pointer k, .string key] w fun e w' => ∃ r, e = .returned (.int .i64 r) ∧ R r w'
theorem kvm_KV_find.Call.mono {k key} {w : World} {R R' : Int → World → Prop} (h : kvm_KV_find.Call k key w R) (hr : ∀ r w', R r w' → R' r w') : kvm_KV_find.Call k key w R' :=
  Calls.mono h fun e w' he => by
    obtain ⟨r, h1, h2⟩ := he
    exact ⟨r, h1, hr r w' h2⟩
def kvm_KV_find.RV (R : Int → World → Prop) (v : Value) (w : World) : Prop := match v with
  | .int .i64 r => R r w
  | _ => False
theorem kvm_KV_find.RV_elim {R : Int → World → Prop} {v : Value} {w : World} (h : kvm_KV_find.RV R v w) : ∃ r, Ending.returned v = .returned (.int .i64 r) ∧ R r w := by
  unfold kvm_KV_find.RV at h
  split at h
  · exact ⟨_, rfl, h⟩
  · exact h.elim
/-- (*e2e/kv.table).room -/
def kv_table_room.Call (t : Option Addr) (key : ByteArray) (w : World) (R : Int → World → Prop) : Prop :=
  Calls Try.prog 62 #[.pointer t, .string key] w fun e w' => ∃ r, e = .returned (.int .i64 r) ∧ R r w'
theorem kv_table_room.Call.mono {t key} {w : World} {R R' : Int → World → Prop} (h : kv_table_room.Call t key w R) (hr : ∀ r w', R r w' → R' r w') : kv_table_room.Call t key w R' :=
  Calls.mono h fun e w' he => by
    obtain ⟨r, h1, h2⟩ := he
    exact ⟨r, h1, hr r w' h2⟩
def kv_table_room.RV (R : Int → World → Prop) (v : Value) (w : World) : Prop := match v with
  | .int .i64 r => R r w
  | _ => False
theorem kv_table_room.RV_elim {R : Int → World → Prop} {v : Value} {w : World} (h : kv_table_room.RV R v w) : ∃ r, Ending.returned v = .returned (.int .i64 r) ∧ R r w := by
  unfold kv_table_room.RV at h
  split at h
  · exact ⟨_, rfl, h⟩
  · exact h.elim
/-- e2e/kv.mkCell -/
def kv_mkCell.Call (key val : ByteArray) (w : World) (R : Int → Int → Int → Int → Int → Int → Int → Int → World → Prop) : Prop :=
  Calls Try.prog 63 #[.string key, .string val] w fun e w' => ∃ r_0 r_1 r_2 r_3 r_4 r_5 r_6 r_7, e = .returned (.agg #[.int .i64 r_0, .int .i64 r_1, .int .u8 r_2, .int .u8 r_3, .int .i64 r_4, .int .u8 r_5, .int .u8 r_6, .int .u8 r_7]) ∧ R r_0 r_1 r_2 r_3 r_4 r_5 r_6 r_7 w'
theorem kv_mkCell.Call.mono {key val} {w : World} {R R' : Int → Int → Int → Int → Int → Int → Int → Int → World → Prop} (h : kv_mkCell.Call key val w R) (hr : ∀ r_0 r_1 r_2 r_3 r_4 r_5 r_6 r_7 w', R r_0 r_1 r_2 r_3 r_4 r_5 r_6 r_7 w' → R' r_0 r_1 r_2 r_3 r_4 r_5 r_6 r_7 w') : kv_mkCell.Call key val w R' :=
  Calls.mono h fun e w' he => by
    obtain ⟨r_0, r_1, r_2, r_3, r_4, r_5, r_6, r_7, h1, h2⟩ := he
    exact ⟨r_0, r_1, r_2, r_3, r_4, r_5, r_6, r_7, h1, hr r_0 r_1 r_2 r_3 r_4 r_5 r_6 r_7 w' h2⟩
def kv_mkCell.RV (R : Int → Int → Int → Int → Int → Int → Int → Int → World → Prop) (v : Value) (w : World) : Prop := match v with
  | .agg ⟨[.int .i64 r_0, .int .i64 r_1, .int .u8 r_2, .int .u8 r_3, .int .i64 r_4, .int .u8 r_5, .int .u8 r_6, .int .u8 r_7]⟩ => R r_0 r_1 r_2 r_3 r_4 r_5 r_6 r_7 w
  | _ => False
theorem kv_mkCell.RV_elim {R : Int → Int → Int → Int → Int → Int → Int → Int → World → Prop} {v : Value} {w : World} (h : kv_mkCell.RV R v w) : ∃ r_0 r_1 r_2 r_3 r_4 r_5 r_6 r_7, Ending.returned v = .returned (.agg #[.int .i64 r_0, .int .i64 r_1, .int .u8 r_2, .int .u8 r_3, .int .i64 r_4, .int .u8 r_5, .int .u8 r_6, .int .u8 r_7]) ∧ R r_0 r_1 r_2 r_3 r_4 r_5 r_6 r_7 w := by
  unfold kv_mkCell.RV at h
  split at h
  · exact ⟨_, _, _, _, _, _, _, _, rfl, h⟩
  · exact h.elim
/-- (*e2e/kv.table).rebuild -/
def kv_table_rebuild.Call (t : Option Addr) (w : World) (R : World → Prop) : Prop :=
  Calls Try.prog 64 #[.pointer t] w fun e w' => e = .returned (.tuple #[]) ∧ R w'
theorem kv_table_rebuild.Call.mono {t} {w : World} {R R' : World → Prop} (h : kv_table_rebuild.Call t w R) (hr : ∀ w', R w' → R'  w') : kv_table_rebuild.Call t w R' :=
  Calls.mono h fun e w' he => by
    obtain ⟨h1, h2⟩ := he
    exact ⟨h1, hr  w' h2⟩
def kv_table_rebuild.RV (R : World → Prop) (v : Value) (w : World) : Prop := match v with
  | .tuple ⟨[]⟩ => R w
  | _ => False
theorem kv_table_rebuild.RV_elim {R : World → Prop} {v : Value} {w : World} (h : kv_table_rebuild.RV R v w) : Ending.returned v = .returned (.tuple #[]) ∧ R w := by
  unfold kv_table_rebuild.RV at h
  split at h
  · exact ⟨rfl, h⟩
  · exact h.elim
/-- (*e2e/kv.KV).run -/
def kv_KV_run.Call (k : Option Addr) (c_0 c_1 c_2 : Int) (c_3 c_4 c_5 : ByteArray) (w : World) (R : Int → ByteArray → World → Prop) : Prop :=
  Calls Try.prog 65 #[.pointer k, .agg #[.int .i64 c_0, .int .i64 c_1, .int .i64 c_2, .string c_3, .string c_4, .string c_5]] w fun e w' => ∃ r_0 r_1, e = .returned (.agg #[.int .i64 r_0, .string r_1]) ∧ R r_0 r_1 w'
theorem kv_KV_run.Call.mono {k c_0 c_1 c_2 c_3 c_4 c_5} {w : World} {R R' : Int → ByteArray → World → Prop} (h : kv_KV_run.Call k c_0 c_1 c_2 c_3 c_4 c_5 w R) (hr : ∀ r_0 r_1 w', R r_0 r_1 w' → R' r_0 r_1 w') : kv_KV_run.Call k c_0 c_1 c_2 c_3 c_4 c_5 w R' :=
  Calls.mono h fun e w' he => by
    obtain ⟨r_0, r_1, h1, h2⟩ := he
    exact ⟨r_0, r_1, h1, hr r_0 r_1 w' h2⟩
def kv_KV_run.RV (R : Int → ByteArray → World → Prop) (v : Value) (w : World) : Prop := match v with
  | .agg ⟨[.int .i64 r_0, .string r_1]⟩ => R r_0 r_1 w
  | _ => False
theorem kv_KV_run.RV_elim {R : Int → ByteArray → World → Prop} {v : Value} {w : World} (h : kv_KV_run.RV R v w) : ∃ r_0 r_1, Ending.returned v = .returned (.agg #[.int .i64 r_0, .string r_1]) ∧ R r_0 r_1 w := by
  unfold kv_KV_run.RV at h
  split at h
  · exact ⟨_, _, rfl, h⟩
  · exact h.elim
/-- (*e2e/kvm.KV).run -/
def kvm_KV_run.Call (k : Option Addr) (c_0 c_1 c_2 : Int) (c_3 c_4 c_5 : ByteArray) (w : World) (R : Int → ByteArray → World → Prop) : Prop :=
  Calls Try.prog 66 #[.pointer k, .agg #[.int .i64 c_0, .int .i64 c_1, .int .i64 c_2, .string c_3, .string c_4, .string c_5]] w fun e w' => ∃ r_0 r_1, e = .returned (.agg #[.int .i64 r_0, .string r_1]) ∧ R r_0 r_1 w'
theorem kvm_KV_run.Call.mono {k c_0 c_1 c_2 c_3 c_4 c_5} {w : World} {R R' : Int → ByteArray → World → Prop} (h : kvm_KV_run.Call k c_0 c_1 c_2 c_3 c_4 c_5 w R) (hr : ∀ r_0 r_1 w', R r_0 r_1 w' → R' r_0 r_1 w') : kvm_KV_run.Call k c_0 c_1 c_2 c_3 c_4 c_5 w R' :=
  Calls.mono h fun e w' he => by
    obtain ⟨r_0, r_1, h1, h2⟩ := he
    exact ⟨r_0, r_1, h1, hr r_0 r_1 w' h2⟩
def kvm_KV_run.RV (R : Int → ByteArray → World → Prop) (v : Value) (w : World) : Prop := match v with
  | .agg ⟨[.int .i64 r_0, .string r_1]⟩ => R r_0 r_1 w
  | _ => False
theorem kvm_KV_run.RV_elim {R : Int → ByteArray → World → Prop} {v : Value} {w : World} (h : kvm_KV_run.RV R v w) : ∃ r_0 r_1, Ending.returned v = .returned (.agg #[.int .i64 r_0, .string r_1]) ∧ R r_0 r_1 w := by
  unfold kvm_KV_run.RV at h
  split at h
  · exact ⟨_, _, rfl, h⟩
  · exact h.elim
/-- e2e/kv.cellFine -/
def kv_cellFine.Call (c_0 c_1 c_2 c_3 c_4 c_5 c_6 c_7 : Int) (w : World) (R : ByteArray → World → Prop) : Prop :=
  Calls Try.prog 67 #[.agg #[.int .i64 c_0, .int .i64 c_1, .int .u8 c_2, .int .u8 c_3, .int .i64 c_4, .int .u8 c_5, .int .u8 c_6, .int .u8 c_7]] w fun e w' => ∃ r, e = .returned (.string r) ∧ R r w'
theorem kv_cellFine.Call.mono {c_0 c_1 c_2 c_3 c_4 c_5 c_6 c_7} {w : World} {R R' : ByteArray → World → Prop} (h : kv_cellFine.Call c_0 c_1 c_2 c_3 c_4 c_5 c_6 c_7 w R) (hr : ∀ r w', R r w' → R' r w') : kv_cellFine.Call c_0 c_1 c_2 c_3 c_4 c_5 c_6 c_7 w R' :=
  Calls.mono h fun e w' he => by
    obtain ⟨r, h1, h2⟩ := he
    exact ⟨r, h1, hr r w' h2⟩
def kv_cellFine.RV (R : ByteArray → World → Prop) (v : Value) (w : World) : Prop := match v with
  | .string r => R r w
  | _ => False
theorem kv_cellFine.RV_elim {R : ByteArray → World → Prop} {v : Value} {w : World} (h : kv_cellFine.RV R v w) : ∃ r, Ending.returned v = .returned (.string r) ∧ R r w := by
  unfold kv_cellFine.RV at h
  split at h
  · exact ⟨_, rfl, h⟩
  · exact h.elim
/-- e2e/kv.sessionFine -/
def kv_sessionFine.Call (s_0 s_1 s_2 s_3 s_4 s_5 : Int) (w : World) (R : ByteArray → World → Prop) : Prop :=
  Calls Try.prog 68 #[.agg #[.int .i64 s_0, .int .i64 s_1, .int .i64 s_2, .int .u8 s_3, .int .u8 s_4, .int .u8 s_5]] w fun e w' => ∃ r, e = .returned (.string r) ∧ R r w'
theorem kv_sessionFine.Call.mono {s_0 s_1 s_2 s_3 s_4 s_5} {w : World} {R R' : ByteArray → World → Prop} (h : kv_sessionFine.Call s_0 s_1 s_2 s_3 s_4 s_5 w R) (hr : ∀ r w', R r w' → R' r w') : kv_sessionFine.Call s_0 s_1 s_2 s_3 s_4 s_5 w R' :=
  Calls.mono h fun e w' he => by
    obtain ⟨r, h1, h2⟩ := he
    exact ⟨r, h1, hr r w' h2⟩
def kv_sessionFine.RV (R : ByteArray → World → Prop) (v : Value) (w : World) : Prop := match v with
  | .string r => R r w
  | _ => False
theorem kv_sessionFine.RV_elim {R : ByteArray → World → Prop} {v : Value} {w : World} (h : kv_sessionFine.RV R v w) : ∃ r, Ending.returned v = .returned (.string r) ∧ R r w := by
  unfold kv_sessionFine.RV at h
  split at h
  · exact ⟨_, rfl, h⟩
  · exact h.elim
/-- e2e/kv.hash -/
def kv_hash.Call (key : ByteArray) (w : World) (R : Int → World → Prop) : Prop :=
  Calls Try.prog 69 #[.string key] w fun e w' => ∃ r, e = .returned (.int .i64 r) ∧ R r w'
theorem kv_hash.Call.mono {key} {w : World} {R R' : Int → World → Prop} (h : kv_hash.Call key w R) (hr : ∀ r w', R r w' → R' r w') : kv_hash.Call key w R' :=
  Calls.mono h fun e w' he => by
    obtain ⟨r, h1, h2⟩ := he
    exact ⟨r, h1, hr r w' h2⟩
def kv_hash.RV (R : Int → World → Prop) (v : Value) (w : World) : Prop := match v with
  | .int .i64 r => R r w
  | _ => False
theorem kv_hash.RV_elim {R : Int → World → Prop} {v : Value} {w : World} (h : kv_hash.RV R v w) : ∃ r, Ending.returned v = .returned (.int .i64 r) ∧ R r w := by
  unfold kv_hash.RV at h
  split at h
  · exact ⟨_, rfl, h⟩
  · exact h.elim
/-- e2e/kv.keyIs -/
def kv_keyIs.Call (c_0 c_1 c_2 c_3 c_4 c_5 c_6 c_7 : Int) (key : ByteArray) (w : World) (R : Bool → World → Prop) : Prop :=
  Calls Try.prog 70 #[.agg #[.int .i64 c_0, .int .i64 c_1, .int .u8 c_2, .int .u8 c_3, .int .i64 c_4, .int .u8 c_5, .int .u8 c_6, .int .u8 c_7], .string key] w fun e w' => ∃ r, e = .returned (.bool r) ∧ R r w'
theorem kv_keyIs.Call.mono {c_0 c_1 c_2 c_3 c_4 c_5 c_6 c_7 key} {w : World} {R R' : Bool → World → Prop} (h : kv_keyIs.Call c_0 c_1 c_2 c_3 c_4 c_5 c_6 c_7 key w R) (hr : ∀ r w', R r w' → R' r w') : kv_keyIs.Call c_0 c_1 c_2 c_3 c_4 c_5 c_6 c_7 key w R' :=
  Calls.mono h fun e w' he => by
    obtain ⟨r, h1, h2⟩ := he
    exact ⟨r, h1, hr r w' h2⟩
def kv_keyIs.RV (R : Bool → World → Prop) (v : Value) (w : World) : Prop := match v with
  | .bool r => R r w
  | _ => False
theorem kv_keyIs.RV_elim {R : Bool → World → Prop} {v : Value} {w : World} (h : kv_keyIs.RV R v w) : ∃ r, Ending.returned v = .returned (.bool r) ∧ R r w := by
  unfold kv_keyIs.RV at h
  split at h
  · exact ⟨_, rfl, h⟩
  · exact h.elim
/-- e2e/kv.next -/
def kv_next.Call (i : Int) (w : World) (R : Int → World → Prop) : Prop :=
  Calls Try.prog 71 #[.int .i64 i] w fun e w' => ∃ r, e = .returned (.int .i64 r) ∧ R r w'
theorem kv_next.Call.mono {i} {w : World} {R R' : Int → World → Prop} (h : kv_next.Call i w R) (hr : ∀ r w', R r w' → R' r w') : kv_next.Call i w R' :=
  Calls.mono h fun e w' he => by
    obtain ⟨r, h1, h2⟩ := he
    exact ⟨r, h1, hr r w' h2⟩
def kv_next.RV (R : Int → World → Prop) (v : Value) (w : World) : Prop := match v with
  | .int .i64 r => R r w
  | _ => False
theorem kv_next.RV_elim {R : Int → World → Prop} {v : Value} {w : World} (h : kv_next.RV R v w) : ∃ r, Ending.returned v = .returned (.int .i64 r) ∧ R r w := by
  unfold kv_next.RV at h
  split at h
  · exact ⟨_, rfl, h⟩
  · exact h.elim
/-- (*e2e/kv.KV).put -/
def kv_KV_put.Call (k : Option Addr) (i c_0 c_1 c_2 : Int) (c_3 c_4 c_5 : ByteArray) (w : World) (R : Int → ByteArray → World → Prop) : Prop :=
  Calls Try.prog 72 #[.pointer k, .int .i64 i, .agg #[.int .i64 c_0, .int .i64 c_1, .int .i64 c_2, .string c_3, .string c_4, .string c_5]] w fun e w' => ∃ r_0 r_1, e = .returned (.agg #[.int .i64 r_0, .string r_1]) ∧ R r_0 r_1 w'
theorem kv_KV_put.Call.mono {k i c_0 c_1 c_2 c_3 c_4 c_5} {w : World} {R R' : Int → ByteArray → World → Prop} (h : kv_KV_put.Call k i c_0 c_1 c_2 c_3 c_4 c_5 w R) (hr : ∀ r_0 r_1 w', R r_0 r_1 w' → R' r_0 r_1 w') : kv_KV_put.Call k i c_0 c_1 c_2 c_3 c_4 c_5 w R' :=
  Calls.mono h fun e w' he => by
    obtain ⟨r_0, r_1, h1, h2⟩ := he
    exact ⟨r_0, r_1, h1, hr r_0 r_1 w' h2⟩
def kv_KV_put.RV (R : Int → ByteArray → World → Prop) (v : Value) (w : World) : Prop := match v with
  | .agg ⟨[.int .i64 r_0, .string r_1]⟩ => R r_0 r_1 w
  | _ => False
theorem kv_KV_put.RV_elim {R : Int → ByteArray → World → Prop} {v : Value} {w : World} (h : kv_KV_put.RV R v w) : ∃ r_0 r_1, Ending.returned v = .returned (.agg #[.int .i64 r_0, .string r_1]) ∧ R r_0 r_1 w := by
  unfold kv_KV_put.RV at h
  split at h
  · exact ⟨_, _, rfl, h⟩
  · exact h.elim
/-- (*e2e/kv.table).drop -/
def kv_table_drop.Call (t : Option Addr) (i : Int) (w : World) (R : World → Prop) : Prop :=
  Calls Try.prog 73 #[.pointer t, .int .i64 i] w fun e w' => e = .returned (.tuple #[]) ∧ R w'
theorem kv_table_drop.Call.mono {t i} {w : World} {R R' : World → Prop} (h : kv_table_drop.Call t i w R) (hr : ∀ w', R w' → R'  w') : kv_table_drop.Call t i w R' :=
  Calls.mono h fun e w' he => by
    obtain ⟨h1, h2⟩ := he
    exact ⟨h1, hr  w' h2⟩
def kv_table_drop.RV (R : World → Prop) (v : Value) (w : World) : Prop := match v with
  | .tuple ⟨[]⟩ => R w
  | _ => False
theorem kv_table_drop.RV_elim {R : World → Prop} {v : Value} {w : World} (h : kv_table_drop.RV R v w) : Ending.returned v = .returned (.tuple #[]) ∧ R w := by
  unfold kv_table_drop.RV at h
  split at h
  · exact ⟨rfl, h⟩
  · exact h.elim
/-- (*e2e/kvm.KV).put -/
def kvm_KV_put.Call (k : Option Addr) (key val : ByteArray) (w : World) (R : Int → World → Prop) : Prop :=
  Calls Try.prog 74 #[.pointer k, .string key, .string val] w fun e w' => ∃ r, e = .returned (.int .i64 r) ∧ R r w'
theorem kvm_KV_put.Call.mono {k key val} {w : World} {R R' : Int → World → Prop} (h : kvm_KV_put.Call k key val w R) (hr : ∀ r w', R r w' → R' r w') : kvm_KV_put.Call k key val w R' :=
  Calls.mono h fun e w' he => by
    obtain ⟨r, h1, h2⟩ := he
    exact ⟨r, h1, hr r w' h2⟩
def kvm_KV_put.RV (R : Int → World → Prop) (v : Value) (w : World) : Prop := match v with
  | .int .i64 r => R r w
  | _ => False
theorem kvm_KV_put.RV_elim {R : Int → World → Prop} {v : Value} {w : World} (h : kvm_KV_put.RV R v w) : ∃ r, Ending.returned v = .returned (.int .i64 r) ∧ R r w := by
  unfold kvm_KV_put.RV at h
  split at h
  · exact ⟨_, rfl, h⟩
  · exact h.elim
end Go.Proofs.Qxb6500429a
