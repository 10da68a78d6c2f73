import Derived.Test.Qxb6500428aSig
set_option maxRecDepth 100000
set_option linter.unusedVariables false
open Go.Vc
namespace Go.Proofs.Qxb6500428a
def electlaw_SameGotVote.B0 (x m0 : Option Addr) (from0 term : Int) (granted : Bool) (w : World)   (R : Bool → World → Prop) : Prop :=
  elect_Elect_GotVote.Call x from0 term granted w fun r17 w1 =>
  electm_Elect_GotVote.Call m0 from0 term granted w1 fun r22 w2 =>
  R (r17 == r22) w2
theorem electlaw_SameGotVote.B0_eq (x m0 : Option Addr) (from0 term : Int) (granted : Bool) (w : World)   (R : Bool → World → Prop)  :
    (
  elect_Elect_GotVote.Call x from0 term granted w fun r17 w1 =>
  electm_Elect_GotVote.Call m0 from0 term granted w1 fun r22 w2 =>
  R (r17 == r22) w2) = kstep Try.prog 26 Try.f37.results.toList (Try.f37.body.getD .skip) (electlaw_SameGotVote.RV R) (kvc Try.prog 26 Try.f37.results.toList (Try.f37.body.getD .skip) (electlaw_SameGotVote.RV R) [] 2000) [(0, [])] [(0, .pointer x), (1, .pointer m0), (2, .int .i64 from0), (3, .int .i64 term), (4, .bool granted)] w := by kernel_rfl
theorem electlaw_SameGotVote.B0_sound {R : Bool → World → Prop}  (x m0 : Option Addr) (from0 term : Int) (granted : Bool) (w : World) (h : electlaw_SameGotVote.B0 x m0 from0 term granted w   R) :
    KW Try.prog 37 26 (electlaw_SameGotVote.RV R) ([(0, [])].map (toItem (Try.f37.body.getD .skip))) [(0, .pointer x), (1, .pointer m0), (2, .int .i64 from0), (3, .int .i64 term), (4, .bool granted)] w := by
  exact block_spec Try.func37 Try.mixed stops_nil (Eq.mp (electlaw_SameGotVote.B0_eq x m0 from0 term granted w   R ) h)
theorem electlaw_SameGotVote.sound (x m0 : Option Addr) (from0 term : Int) (granted : Bool) (w : World) (R : Bool → World → Prop) (h : electlaw_SameGotVote.B0 x m0 from0 term granted w R) : electlaw_SameGotVote.Call x m0 from0 term granted w R := by
  have hc := calls_of_block (args := #[.pointer x, .pointer m0, .int .i64 from0, .int .i64 term, .bool granted]) Try.func37 (body := (Try.f37.body.getD .skip)) (by kernel_rfl) (by kernel_rfl) (args_slot _) (electlaw_SameGotVote.B0_sound x m0 from0 term granted w h)
  exact hc.mono fun e w' he => by
    obtain ⟨v, rfl, hv⟩ := he
    exact electlaw_SameGotVote.RV_elim hv
def electlaw_SameHeard.B0 (x m0 : Option Addr) (from0 term : Int) (w : World)   (R : Bool → World → Prop) : Prop :=
  elect_Elect_Heard.Call x from0 term w fun r14 w1 =>
  electm_Elect_Heard.Call m0 from0 term w1 fun r18 w2 =>
  R (r14 == r18) w2
theorem electlaw_SameHeard.B0_eq (x m0 : Option Addr) (from0 term : Int) (w : World)   (R : Bool → World → Prop)  :
    (
  elect_Elect_Heard.Call x from0 term w fun r14 w1 =>
  electm_Elect_Heard.Call m0 from0 term w1 fun r18 w2 =>
  R (r14 == r18) w2) = kstep Try.prog 22 Try.f38.results.toList (Try.f38.body.getD .skip) (electlaw_SameHeard.RV R) (kvc Try.prog 22 Try.f38.results.toList (Try.f38.body.getD .skip) (electlaw_SameHeard.RV R) [] 2000) [(0, [])] [(0, .pointer x), (1, .pointer m0), (2, .int .i64 from0), (3, .int .i64 term)] w := by kernel_rfl
theorem electlaw_SameHeard.B0_sound {R : Bool → World → Prop}  (x m0 : Option Addr) (from0 term : Int) (w : World) (h : electlaw_SameHeard.B0 x m0 from0 term w   R) :
    KW Try.prog 38 22 (electlaw_SameHeard.RV R) ([(0, [])].map (toItem (Try.f38.body.getD .skip))) [(0, .pointer x), (1, .pointer m0), (2, .int .i64 from0), (3, .int .i64 term)] w := by
  exact block_spec Try.func38 Try.mixed stops_nil (Eq.mp (electlaw_SameHeard.B0_eq x m0 from0 term w   R ) h)
theorem electlaw_SameHeard.sound (x m0 : Option Addr) (from0 term : Int) (w : World) (R : Bool → World → Prop) (h : electlaw_SameHeard.B0 x m0 from0 term w R) : electlaw_SameHeard.Call x m0 from0 term w R := by
  have hc := calls_of_block (args := #[.pointer x, .pointer m0, .int .i64 from0, .int .i64 term]) Try.func38 (body := (Try.f38.body.getD .skip)) (by kernel_rfl) (by kernel_rfl) (args_slot _) (electlaw_SameHeard.B0_sound x m0 from0 term w h)
  exact hc.mono fun e w' he => by
    obtain ⟨v, rfl, hv⟩ := he
    exact electlaw_SameHeard.RV_elim hv
def electlaw_SameRestore.B0 (x m0 : Option Addr) (term vote : Int) (w : World)   (R : Bool → World → Prop) : Prop :=
  elect_Elect_Restore.Call x term vote w fun r14 w1 =>
  electm_Elect_Restore.Call m0 term vote w1 fun r18 w2 =>
  R (r14 == r18) w2
theorem electlaw_SameRestore.B0_eq (x m0 : Option Addr) (term vote : Int) (w : World)   (R : Bool → World → Prop)  :
    (
  elect_Elect_Restore.Call x term vote w fun r14 w1 =>
  electm_Elect_Restore.Call m0 term vote w1 fun r18 w2 =>
  R (r14 == r18) w2) = kstep Try.prog 22 Try.f39.results.toList (Try.f39.body.getD .skip) (electlaw_SameRestore.RV R) (kvc Try.prog 22 Try.f39.results.toList (Try.f39.body.getD .skip) (electlaw_SameRestore.RV R) [] 2000) [(0, [])] [(0, .pointer x), (1, .pointer m0), (2, .int .i64 term), (3, .int .i64 vote)] w := by kernel_rfl
theorem electlaw_SameRestore.B0_sound {R : Bool → World → Prop}  (x m0 : Option Addr) (term vote : Int) (w : World) (h : electlaw_SameRestore.B0 x m0 term vote w   R) :
    KW Try.prog 39 22 (electlaw_SameRestore.RV R) ([(0, [])].map (toItem (Try.f39.body.getD .skip))) [(0, .pointer x), (1, .pointer m0), (2, .int .i64 term), (3, .int .i64 vote)] w := by
  exact block_spec Try.func39 Try.mixed stops_nil (Eq.mp (electlaw_SameRestore.B0_eq x m0 term vote w   R ) h)
theorem electlaw_SameRestore.sound (x m0 : Option Addr) (term vote : Int) (w : World) (R : Bool → World → Prop) (h : electlaw_SameRestore.B0 x m0 term vote w R) : electlaw_SameRestore.Call x m0 term vote w R := by
  have hc := calls_of_block (args := #[.pointer x, .pointer m0, .int .i64 term, .int .i64 vote]) Try.func39 (body := (Try.f39.body.getD .skip)) (by kernel_rfl) (by kernel_rfl) (args_slot _) (electlaw_SameRestore.B0_sound x m0 term vote w h)
  exact hc.mono fun e w' he => by
    obtain ⟨v, rfl, hv⟩ := he
    exact electlaw_SameRestore.RV_elim hv
def electlaw_SameId.B0 (x m0 : Option Addr) (w : World)   (R : Bool → World → Prop) : Prop :=
  elect_Elect_Id.Call x w fun r8 w1 =>
  electm_Elect_Id.Call m0 w1 fun r10 w2 =>
  R (r8 == r10) w2
theorem electlaw_SameId.B0_eq (x m0 : Option Addr) (w : World)   (R : Bool → World → Prop)  :
    (
  elect_Elect_Id.Call x w fun r8 w1 =>
  electm_Elect_Id.Call m0 w1 fun r10 w2 =>
  R (r8 == r10) w2) = kstep Try.prog 14 Try.f40.results.toList (Try.f40.body.getD .skip) (electlaw_SameId.RV R) (kvc Try.prog 14 Try.f40.results.toList (Try.f40.body.getD .skip) (electlaw_SameId.RV R) [] 2000) [(0, [])] [(0, .pointer x), (1, .pointer m0)] w := by kernel_rfl
theorem electlaw_SameId.B0_sound {R : Bool → World → Prop}  (x m0 : Option Addr) (w : World) (h : electlaw_SameId.B0 x m0 w   R) :
    KW Try.prog 40 14 (electlaw_SameId.RV R) ([(0, [])].map (toItem (Try.f40.body.getD .skip))) [(0, .pointer x), (1, .pointer m0)] w := by
  exact block_spec Try.func40 Try.mixed stops_nil (Eq.mp (electlaw_SameId.B0_eq x m0 w   R ) h)
theorem electlaw_SameId.sound (x m0 : Option Addr) (w : World) (R : Bool → World → Prop) (h : electlaw_SameId.B0 x m0 w R) : electlaw_SameId.Call x m0 w R := by
  have hc := calls_of_block (args := #[.pointer x, .pointer m0]) Try.func40 (body := (Try.f40.body.getD .skip)) (by kernel_rfl) (by kernel_rfl) (args_slot _) (electlaw_SameId.B0_sound x m0 w h)
  exact hc.mono fun e w' he => by
    obtain ⟨v, rfl, hv⟩ := he
    exact electlaw_SameId.RV_elim hv
def electlaw_SameTerm.B0 (x m0 : Option Addr) (w : World)   (R : Bool → World → Prop) : Prop :=
  elect_Elect_Term.Call x w fun r8 w1 =>
  electm_Elect_Term.Call m0 w1 fun r10 w2 =>
  R (r8 == r10) w2
theorem electlaw_SameTerm.B0_eq (x m0 : Option Addr) (w : World)   (R : Bool → World → Prop)  :
    (
  elect_Elect_Term.Call x w fun r8 w1 =>
  electm_Elect_Term.Call m0 w1 fun r10 w2 =>
  R (r8 == r10) w2) = kstep Try.prog 14 Try.f41.results.toList (Try.f41.body.getD .skip) (electlaw_SameTerm.RV R) (kvc Try.prog 14 Try.f41.results.toList (Try.f41.body.getD .skip) (electlaw_SameTerm.RV R) [] 2000) [(0, [])] [(0, .pointer x), (1, .pointer m0)] w := by kernel_rfl
theorem electlaw_SameTerm.B0_sound {R : Bool → World → Prop}  (x m0 : Option Addr) (w : World) (h : electlaw_SameTerm.B0 x m0 w   R) :
    KW Try.prog 41 14 (electlaw_SameTerm.RV R) ([(0, [])].map (toItem (Try.f41.body.getD .skip))) [(0, .pointer x), (1, .pointer m0)] w := by
  exact block_spec Try.func41 Try.mixed stops_nil (Eq.mp (electlaw_SameTerm.B0_eq x m0 w   R ) h)
theorem electlaw_SameTerm.sound (x m0 : Option Addr) (w : World) (R : Bool → World → Prop) (h : electlaw_SameTerm.B0 x m0 w R) : electlaw_SameTerm.Call x m0 w R := by
  have hc := calls_of_block (args := #[.pointer x, .pointer m0]) Try.func41 (body := (Try.f41.body.getD .skip)) (by kernel_rfl) (by kernel_rfl) (args_slot _) (electlaw_SameTerm.B0_sound x m0 w h)
  exact hc.mono fun e w' he => by
    obtain ⟨v, rfl, hv⟩ := he
    exact electlaw_SameTerm.RV_elim hv
def electlaw_SameVote.B0 (x m0 : Option Addr) (w : World)   (R : Bool → World → Prop) : Prop :=
  elect_Elect_Vote.Call x w fun r8 w1 =>
  electm_Elect_Vote.Call m0 w1 fun r10 w2 =>
  R (r8 == r10) w2
theorem electlaw_SameVote.B0_eq (x m0 : Option Addr) (w : World)   (R : Bool → World → Prop)  :
    (
  elect_Elect_Vote.Call x w fun r8 w1 =>
  electm_Elect_Vote.Call m0 w1 fun r10 w2 =>
  R (r8 == r10) w2) = kstep Try.prog 14 Try.f42.results.toList (Try.f42.body.getD .skip) (electlaw_SameVote.RV R) (kvc Try.prog 14 Try.f42.results.toList (Try.f42.body.getD .skip) (electlaw_SameVote.RV R) [] 2000) [(0, [])] [(0, .pointer x), (1, .pointer m0)] w := by kernel_rfl
theorem electlaw_SameVote.B0_sound {R : Bool → World → Prop}  (x m0 : Option Addr) (w : World) (h : electlaw_SameVote.B0 x m0 w   R) :
    KW Try.prog 42 14 (electlaw_SameVote.RV R) ([(0, [])].map (toItem (Try.f42.body.getD .skip))) [(0, .pointer x), (1, .pointer m0)] w := by
  exact block_spec Try.func42 Try.mixed stops_nil (Eq.mp (electlaw_SameVote.B0_eq x m0 w   R ) h)
theorem electlaw_SameVote.sound (x m0 : Option Addr) (w : World) (R : Bool → World → Prop) (h : electlaw_SameVote.B0 x m0 w R) : electlaw_SameVote.Call x m0 w R := by
  have hc := calls_of_block (args := #[.pointer x, .pointer m0]) Try.func42 (body := (Try.f42.body.getD .skip)) (by kernel_rfl) (by kernel_rfl) (args_slot _) (electlaw_SameVote.B0_sound x m0 w h)
  exact hc.mono fun e w' he => by
    obtain ⟨v, rfl, hv⟩ := he
    exact electlaw_SameVote.RV_elim hv
def electlaw_SameRole.B0 (x m0 : Option Addr) (w : World)   (R : Bool → World → Prop) : Prop :=
  elect_Elect_Role.Call x w fun r8 w1 =>
  electm_Elect_Role.Call m0 w1 fun r10 w2 =>
  R (r8 == r10) w2
theorem electlaw_SameRole.B0_eq (x m0 : Option Addr) (w : World)   (R : Bool → World → Prop)  :
    (
  elect_Elect_Role.Call x w fun r8 w1 =>
  electm_Elect_Role.Call m0 w1 fun r10 w2 =>
  R (r8 == r10) w2) = kstep Try.prog 14 Try.f43.results.toList (Try.f43.body.getD .skip) (electlaw_SameRole.RV R) (kvc Try.prog 14 Try.f43.results.toList (Try.f43.body.getD .skip) (electlaw_SameRole.RV R) [] 2000) [(0, [])] [(0, .pointer x), (1, .pointer m0)] w := by kernel_rfl
theorem electlaw_SameRole.B0_sound {R : Bool → World → Prop}  (x m0 : Option Addr) (w : World) (h : electlaw_SameRole.B0 x m0 w   R) :
    KW Try.prog 43 14 (electlaw_SameRole.RV R) ([(0, [])].map (toItem (Try.f43.body.getD .skip))) [(0, .pointer x), (1, .pointer m0)] w := by
  exact block_spec Try.func43 Try.mixed stops_nil (Eq.mp (electlaw_SameRole.B0_eq x m0 w   R ) h)
theorem electlaw_SameRole.sound (x m0 : Option Addr) (w : World) (R : Bool → World → Prop) (h : electlaw_SameRole.B0 x m0 w R) : electlaw_SameRole.Call x m0 w R := by
  have hc := calls_of_block (args := #[.pointer x, .pointer m0]) Try.func43 (body := (Try.f43.body.getD .skip)) (by kernel_rfl) (by kernel_rfl) (args_slot _) (electlaw_SameRole.B0_sound x m0 w h)
  exact hc.mono fun e w' he => by
    obtain ⟨v, rfl, hv⟩ := he
    exact electlaw_SameRole.RV_elim hv
def electlaw_SameLeader.B0 (x m0 : Option Addr) (w : World)   (R : Bool → World → Prop) : Prop :=
  elect_Elect_Leader.Call x w fun r8 w1 =>
  electm_Elect_Leader.Call m0 w1 fun r10 w2 =>
  R (r8 == r10) w2
theorem electlaw_SameLeader.B0_eq (x m0 : Option Addr) (w : World)   (R : Bool → World → Prop)  :
    (
  elect_Elect_Leader.Call x w fun r8 w1 =>
  electm_Elect_Leader.Call m0 w1 fun r10 w2 =>
  R (r8 == r10) w2) = kstep Try.prog 14 Try.f44.results.toList (Try.f44.body.getD .skip) (electlaw_SameLeader.RV R) (kvc Try.prog 14 Try.f44.results.toList (Try.f44.body.getD .skip) (electlaw_SameLeader.RV R) [] 2000) [(0, [])] [(0, .pointer x), (1, .pointer m0)] w := by kernel_rfl
theorem electlaw_SameLeader.B0_sound {R : Bool → World → Prop}  (x m0 : Option Addr) (w : World) (h : electlaw_SameLeader.B0 x m0 w   R) :
    KW Try.prog 44 14 (electlaw_SameLeader.RV R) ([(0, [])].map (toItem (Try.f44.body.getD .skip))) [(0, .pointer x), (1, .pointer m0)] w := by
  exact block_spec Try.func44 Try.mixed stops_nil (Eq.mp (electlaw_SameLeader.B0_eq x m0 w   R ) h)
theorem electlaw_SameLeader.sound (x m0 : Option Addr) (w : World) (R : Bool → World → Prop) (h : electlaw_SameLeader.B0 x m0 w R) : electlaw_SameLeader.Call x m0 w R := by
  have hc := calls_of_block (args := #[.pointer x, .pointer m0]) Try.func44 (body := (Try.f44.body.getD .skip)) (by kernel_rfl) (by kernel_rfl) (args_slot _) (electlaw_SameLeader.B0_sound x m0 w h)
  exact hc.mono fun e w' he => by
    obtain ⟨v, rfl, hv⟩ := he
    exact electlaw_SameLeader.RV_elim hv
def electlaw_SameClock.B0 (x m0 : Option Addr) (w : World)   (R : Bool → World → Prop) : Prop :=
  elect_Elect_Clock.Call x w fun r8 w1 =>
  electm_Elect_Clock.Call m0 w1 fun r10 w2 =>
  R (r8 == r10) w2
theorem electlaw_SameClock.B0_eq (x m0 : Option Addr) (w : World)   (R : Bool → World → Prop)  :
    (
  elect_Elect_Clock.Call x w fun r8 w1 =>
  electm_Elect_Clock.Call m0 w1 fun r10 w2 =>
  R (r8 == r10) w2) = kstep Try.prog 14 Try.f45.results.toList (Try.f45.body.getD .skip) (electlaw_SameClock.RV R) (kvc Try.prog 14 Try.f45.results.toList (Try.f45.body.getD .skip) (electlaw_SameClock.RV R) [] 2000) [(0, [])] [(0, .pointer x), (1, .pointer m0)] w := by kernel_rfl
theorem electlaw_SameClock.B0_sound {R : Bool → World → Prop}  (x m0 : Option Addr) (w : World) (h : electlaw_SameClock.B0 x m0 w   R) :
    KW Try.prog 45 14 (electlaw_SameClock.RV R) ([(0, [])].map (toItem (Try.f45.body.getD .skip))) [(0, .pointer x), (1, .pointer m0)] w := by
  exact block_spec Try.func45 Try.mixed stops_nil (Eq.mp (electlaw_SameClock.B0_eq x m0 w   R ) h)
theorem electlaw_SameClock.sound (x m0 : Option Addr) (w : World) (R : Bool → World → Prop) (h : electlaw_SameClock.B0 x m0 w R) : electlaw_SameClock.Call x m0 w R := by
  have hc := calls_of_block (args := #[.pointer x, .pointer m0]) Try.func45 (body := (Try.f45.body.getD .skip)) (by kernel_rfl) (by kernel_rfl) (args_slot _) (electlaw_SameClock.B0_sound x m0 w h)
  exact hc.mono fun e w' he => by
    obtain ⟨v, rfl, hv⟩ := he
    exact electlaw_SameClock.RV_elim hv
def electlaw_Sound.B0 (x : Option Addr) (w : World)   (R : Bool → World → Prop) : Prop :=
  elect_Elect_Check.Call x w fun r4 w1 =>
  R (r4.toList == (ByteArray.mk #[]).toList) w1
theorem electlaw_Sound.B0_eq (x : Option Addr) (w : World)   (R : Bool → World → Prop)  :
    (
  elect_Elect_Check.Call x w fun r4 w1 =>
  R (r4.toList == (ByteArray.mk #[]).toList) w1) = kstep Try.prog 6 Try.f46.results.toList (Try.f46.body.getD .skip) (electlaw_Sound.RV R) (kvc Try.prog 6 Try.f46.results.toList (Try.f46.body.getD .skip) (electlaw_Sound.RV R) [] 2000) [(0, [])] [(0, .pointer x)] w := by kernel_rfl
theorem electlaw_Sound.B0_sound {R : Bool → World → Prop}  (x : Option Addr) (w : World) (h : electlaw_Sound.B0 x w   R) :
    KW Try.prog 46 6 (electlaw_Sound.RV R) ([(0, [])].map (toItem (Try.f46.body.getD .skip))) [(0, .pointer x)] w := by
  exact block_spec Try.func46 Try.mixed stops_nil (Eq.mp (electlaw_Sound.B0_eq x w   R ) h)
theorem electlaw_Sound.sound (x : Option Addr) (w : World) (R : Bool → World → Prop) (h : electlaw_Sound.B0 x w R) : electlaw_Sound.Call x w R := by
  have hc := calls_of_block (args := #[.pointer x]) Try.func46 (body := (Try.f46.body.getD .skip)) (by kernel_rfl) (by kernel_rfl) (args_slot _) (electlaw_Sound.B0_sound x w h)
  exact hc.mono fun e w' he => by
    obtain ⟨v, rfl, hv⟩ := he
    exact electlaw_Sound.RV_elim hv
def elect_Elect_Got.B0 (e : Option Addr) (p : Int) (w : World)   (R : Bool → World → Prop) : Prop :=
  Bm (decide (p ≥ (0 : Int))) (
    Bm (decide (p < (3 : Int))) (
      Pn e fun a =>
      LdI .i64 (a.add 3) w.drew fun x15 =>
      elect_bit.Call p w.drew fun r17 w1 =>
      w1.cell? (a.add 3) = some (.int .i64 x15) ∧
      R ((IntKind.i64.wrap (BitVec.ofInt IntKind.i64.bits x15 &&& BitVec.ofInt IntKind.i64.bits r17).toNat) != (0 : Int)) w1) (
      R false w.drew)) (
    R false w.drew)
theorem elect_Elect_Got.B0_eq (e : Option Addr) (p : Int) (w : World)   (R : Bool → World → Prop)  :
    (
  Bm (decide (p ≥ (0 : Int))) (
    Bm (decide (p < (3 : Int))) (
      Pn e fun a =>
      LdI .i64 (a.add 3) w.drew fun x15 =>
      elect_bit.Call p w.drew fun r17 w1 =>
      w1.cell? (a.add 3) = some (.int .i64 x15) ∧
      R ((IntKind.i64.wrap (BitVec.ofInt IntKind.i64.bits x15 &&& BitVec.ofInt IntKind.i64.bits r17).toNat) != (0 : Int)) w1) (
      R false w.drew)) (
    R false w.drew)) = kstep Try.prog 21 Try.f47.results.toList (Try.f47.body.getD .skip) (elect_Elect_Got.RV R) (kvc Try.prog 21 Try.f47.results.toList (Try.f47.body.getD .skip) (elect_Elect_Got.RV R) [] 2000) [(0, [])] [(0, .pointer e), (1, .int .i64 p)] w := by kernel_rfl
theorem elect_Elect_Got.B0_sound {R : Bool → World → Prop}  (e : Option Addr) (p : Int) (w : World) (h : elect_Elect_Got.B0 e p w   R) :
    KW Try.prog 47 21 (elect_Elect_Got.RV R) ([(0, [])].map (toItem (Try.f47.body.getD .skip))) [(0, .pointer e), (1, .int .i64 p)] w := by
  exact block_spec Try.func47 Try.mixed stops_nil (Eq.mp (elect_Elect_Got.B0_eq e p w   R ) h)
theorem elect_Elect_Got.sound (e : Option Addr) (p : Int) (w : World) (R : Bool → World → Prop) (h : elect_Elect_Got.B0 e p w R) : elect_Elect_Got.Call e p w R := by
  have hc := calls_of_block (args := #[.pointer e, .int .i64 p]) Try.func47 (body := (Try.f47.body.getD .skip)) (by kernel_rfl) (by kernel_rfl) (args_slot _) (elect_Elect_Got.B0_sound e p w h)
  exact hc.mono fun e w' he => by
    obtain ⟨v, rfl, hv⟩ := he
    exact elect_Elect_Got.RV_elim hv
def electm_Elect_Got.B0 (e : Option Addr) (p : Int) (w : World)   (R : Bool → World → Prop) : Prop :=
  Bm (decide (p ≥ (0 : Int))) (
    Bm (decide (p < (3 : Int))) (
      Pn e fun a =>
      (0 ≤ p ∧ p < ((3 : Nat) : Int)) ∧
      LdB (Addr.add (a.add 6) (p.toNat * 1)) w fun x17 =>
      R x17 w) (
      R false w)) (
    R false w)
theorem electm_Elect_Got.B0_eq (e : Option Addr) (p : Int) (w : World)   (R : Bool → World → Prop)  :
    (
  Bm (decide (p ≥ (0 : Int))) (
    Bm (decide (p < (3 : Int))) (
      Pn e fun a =>
      (0 ≤ p ∧ p < ((3 : Nat) : Int)) ∧
      LdB (Addr.add (a.add 6) (p.toNat * 1)) w fun x17 =>
      R x17 w) (
      R false w)) (
    R false w)) = kstep Try.prog 19 Try.f48.results.toList (Try.f48.body.getD .skip) (electm_Elect_Got.RV R) (kvc Try.prog 19 Try.f48.results.toList (Try.f48.body.getD .skip) (electm_Elect_Got.RV R) [] 2000) [(0, [])] [(0, .pointer e), (1, .int .i64 p)] w := by kernel_rfl
theorem electm_Elect_Got.B0_sound {R : Bool → World → Prop}  (e : Option Addr) (p : Int) (w : World) (h : electm_Elect_Got.B0 e p w   R) :
    KW Try.prog 48 19 (electm_Elect_Got.RV R) ([(0, [])].map (toItem (Try.f48.body.getD .skip))) [(0, .pointer e), (1, .int .i64 p)] w := by
  exact block_spec Try.func48 Try.mixed stops_nil (Eq.mp (electm_Elect_Got.B0_eq e p w   R ) h)
theorem electm_Elect_Got.sound (e : Option Addr) (p : Int) (w : World) (R : Bool → World → Prop) (h : electm_Elect_Got.B0 e p w R) : electm_Elect_Got.Call e p w R := by
  have hc := calls_of_block (args := #[.pointer e, .int .i64 p]) Try.func48 (body := (Try.f48.body.getD .skip)) (by kernel_rfl) (by kernel_rfl) (args_slot _) (electm_Elect_Got.B0_sound e p w h)
  exact hc.mono fun e w' he => by
    obtain ⟨v, rfl, hv⟩ := he
    exact electm_Elect_Got.RV_elim hv
def elect_Elect_Tick.B0 (e : Option Addr) (w : World)   (R : Int → World → Prop) : Prop :=
  elect_Elect_Role.Call e w fun r5 w1 =>
  elect_turn.Call r5 (0 : Int) w1 fun r7 w2 =>
  Bm (decide (r7 < (0 : Int))) (
    R (2 : Int) w2) (
    Pn e fun a =>
    LdI .i64 (a.add 4) w2 fun x13 =>
    Pn e fun a_1 =>
    Sts [.int .i64 (IntKind.i64.wrap (x13 + (1 : Int)))] (a_1.add 4) 0 w2 fun w3 =>
    Pn e fun a_2 =>
    LdI .i64 (a_2.add 4) w3.drew fun x20 =>
    Pn e fun a_3 =>
    LdI .i64 (a_3.add 5) w3.drew fun x24 =>
    Bm (decide (x20 < x24)) (
      R (0 : Int) w3.drew) (
      elect_Elect_wind.Call e w3.drew fun w4 =>
      Pn e fun a_4 =>
      LdI .i64 (a_4.add 1) w4 fun x31 =>
      Bm (decide (x31 ≥ (72057594037927936 : Int))) (
        R (0 : Int) w4) (
        Pn e fun a_5 =>
        LdI .i64 (a_5.add 1) w4.drew fun x38 =>
        Pn e fun a_6 =>
        LdI .i64 a_6 w4.drew fun x43 =>
        elect_bit.Call x43 w4.drew fun r44 w5 =>
        w5.cell? (a_5.add 1) = some (.int .i64 x38) ∧
        Pn e fun a_7 =>
        Sts [.int .i64 (IntKind.i64.wrap (x38 + (1 : Int)))] (a_7.add 1) 0 w5 fun w6 =>
        Pn e fun a_8 =>
        Sts [.int .i64 r44] (a_8.add 3) 0 w6 fun w7 =>
        Pn e fun a_9 =>
        LdI .i64 a_9 w7 fun x54 =>
        elect_Elect_put.Call e r7 x54 (-1 : Int) w7 fun w8 =>
        R (1 : Int) w8)))
theorem elect_Elect_Tick.B0_eq (e : Option Addr) (w : World)   (R : Int → World → Prop)  :
    (
  elect_Elect_Role.Call e w fun r5 w1 =>
  elect_turn.Call r5 (0 : Int) w1 fun r7 w2 =>
  Bm (decide (r7 < (0 : Int))) (
    R (2 : Int) w2) (
    Pn e fun a =>
    LdI .i64 (a.add 4) w2 fun x13 =>
    Pn e fun a_1 =>
    Sts [.int .i64 (IntKind.i64.wrap (x13 + (1 : Int)))] (a_1.add 4) 0 w2 fun w3 =>
    Pn e fun a_2 =>
    LdI .i64 (a_2.add 4) w3.drew fun x20 =>
    Pn e fun a_3 =>
    LdI .i64 (a_3.add 5) w3.drew fun x24 =>
    Bm (decide (x20 < x24)) (
      R (0 : Int) w3.drew) (
      elect_Elect_wind.Call e w3.drew fun w4 =>
      Pn e fun a_4 =>
      LdI .i64 (a_4.add 1) w4 fun x31 =>
      Bm (decide (x31 ≥ (72057594037927936 : Int))) (
        R (0 : Int) w4) (
        Pn e fun a_5 =>
        LdI .i64 (a_5.add 1) w4.drew fun x38 =>
        Pn e fun a_6 =>
        LdI .i64 a_6 w4.drew fun x43 =>
        elect_bit.Call x43 w4.drew fun r44 w5 =>
        w5.cell? (a_5.add 1) = some (.int .i64 x38) ∧
        Pn e fun a_7 =>
        Sts [.int .i64 (IntKind.i64.wrap (x38 + (1 : Int)))] (a_7.add 1) 0 w5 fun w6 =>
        Pn e fun a_8 =>
        Sts [.int .i64 r44] (a_8.add 3) 0 w6 fun w7 =>
        Pn e fun a_9 =>
        LdI .i64 a_9 w7 fun x54 =>
        elect_Elect_put.Call e r7 x54 (-1 : Int) w7 fun w8 =>
        R (1 : Int) w8)))) = kstep Try.prog 56 Try.f49.results.toList (Try.f49.body.getD .skip) (elect_Elect_Tick.RV R) (kvc Try.prog 56 Try.f49.results.toList (Try.f49.body.getD .skip) (elect_Elect_Tick.RV R) [] 2000) [(0, [])] [(0, .pointer e)] w := by kernel_rfl
theorem elect_Elect_Tick.B0_sound {R : Int → World → Prop}  (e : Option Addr) (w : World) (h : elect_Elect_Tick.B0 e w   R) :
    KW Try.prog 49 56 (elect_Elect_Tick.RV R) ([(0, [])].map (toItem (Try.f49.body.getD .skip))) [(0, .pointer e)] w := by
  exact block_spec Try.func49 Try.mixed stops_nil (Eq.mp (elect_Elect_Tick.B0_eq e w   R ) h)
theorem elect_Elect_Tick.sound (e : Option Addr) (w : World) (R : Int → World → Prop) (h : elect_Elect_Tick.B0 e w R) : elect_Elect_Tick.Call e w R := by
  have hc := calls_of_block (args := #[.pointer e]) Try.func49 (body := (Try.f49.body.getD .skip)) (by kernel_rfl) (by kernel_rfl) (args_slot _) (elect_Elect_Tick.B0_sound e w h)
  exact hc.mono fun e w' he => by
    obtain ⟨v, rfl, hv⟩ := he
    exact elect_Elect_Tick.RV_elim hv
def elect_Elect_See.B1 (e : Option Addr) (term : Int) (t15 : Bool) (w : World)   (R : Bool → World → Prop) : Prop :=
  Bm t15 (
    R false w) (
    elect_Elect_Role.Call e w fun r17 w1 =>
    elect_turn.Call r17 (1 : Int) w1 fun r19 w2 =>
    Pn e fun a =>
    Sts [.int .i64 term] (a.add 1) 0 w2 fun w3 =>
    Pn e fun a_1 =>
    Sts [.int .i64 (0 : Int)] (a_1.add 3) 0 w3 fun w4 =>
    elect_Elect_put.Call e r19 (-1 : Int) (-1 : Int) w4 fun w5 =>
    R true w5)
theorem elect_Elect_See.B1_eq (e : Option Addr) (term : Int) (t15 : Bool) (w : World)   (R : Bool → World → Prop)  :
    (
  Bm t15 (
    R false w) (
    elect_Elect_Role.Call e w fun r17 w1 =>
    elect_turn.Call r17 (1 : Int) w1 fun r19 w2 =>
    Pn e fun a =>
    Sts [.int .i64 term] (a.add 1) 0 w2 fun w3 =>
    Pn e fun a_1 =>
    Sts [.int .i64 (0 : Int)] (a_1.add 3) 0 w3 fun w4 =>
    elect_Elect_put.Call e r19 (-1 : Int) (-1 : Int) w4 fun w5 =>
    R true w5)) = kstep Try.prog 30 Try.f50.results.toList (Try.f50.body.getD .skip) (elect_Elect_See.RV R) (kvc Try.prog 30 Try.f50.results.toList (Try.f50.body.getD .skip) (elect_Elect_See.RV R) [] 2000) [(0, [1, 0, 1]), (0, [1, 1])] [(0, .pointer e), (1, .int .i64 term), (15, .bool t15)] w := by kernel_rfl
theorem elect_Elect_See.B1_sound {R : Bool → World → Prop}  (e : Option Addr) (term : Int) (t15 : Bool) (w : World) (h : elect_Elect_See.B1 e term t15 w   R) :
    KW Try.prog 50 30 (elect_Elect_See.RV R) ([(0, [1, 0, 1]), (0, [1, 1])].map (toItem (Try.f50.body.getD .skip))) [(0, .pointer e), (1, .int .i64 term), (15, .bool t15)] w := by
  exact block_spec Try.func50 Try.mixed stops_nil (Eq.mp (elect_Elect_See.B1_eq e term t15 w   R ) h)
def elect_Elect_See.B0 (e : Option Addr) (term : Int) (w : World)   (R : Bool → World → Prop) : Prop :=
  Pn e fun a =>
  LdI .i64 (a.add 1) w fun x10 =>
  Bm (decide (term ≤ x10)) (
    elect_Elect_See.B1 e term true w  R) (
    elect_Elect_See.B1 e term (decide (term > (72057594037927936 : Int))) w  R)
theorem elect_Elect_See.B0_eq (e : Option Addr) (term : Int) (w : World)   (R : Bool → World → Prop) (sB1 : Option Addr → Int → Bool → World → Prop) :
    (
  Pn e fun a =>
  LdI .i64 (a.add 1) w fun x10 =>
  Bm (decide (term ≤ x10)) (
    sB1 e term true w) (
    sB1 e term (decide (term > (72057594037927936 : Int))) w)) = kstep Try.prog 30 Try.f50.results.toList (Try.f50.body.getD .skip) (elect_Elect_See.RV R) (kvc Try.prog 30 Try.f50.results.toList (Try.f50.body.getD .skip) (elect_Elect_See.RV R) [([(0, [1, 0, 1]), (0, [1, 1])], fun σ w => dP (slotOf σ 0) fun e_ => dI .i64 (slotOf σ 1) fun term_ => dB (slotOf σ 15) fun t15_ => sB1 e_ term_ t15_ w)] 2000) [(0, [])] [(0, .pointer e), (1, .int .i64 term)] w := by kernel_rfl
theorem elect_Elect_See.B0_sound {R : Bool → World → Prop}  (e : Option Addr) (term : Int) (w : World) (h : elect_Elect_See.B0 e term w   R) :
    KW Try.prog 50 30 (elect_Elect_See.RV R) ([(0, [])].map (toItem (Try.f50.body.getD .skip))) [(0, .pointer e), (1, .int .i64 term)] w := by
  exact block_spec Try.func50 Try.mixed (stops_cons (fun σ w h => by
      obtain ⟨e_, e0, h⟩ := dP_elim h
      obtain ⟨term_, e1, h⟩ := dI_elim h
      obtain ⟨t15_, e2, h⟩ := dB_elim h
      exact (elect_Elect_See.B1_sound  e_ term_ t15_ w h).weaken (Sub.cons (Sub.cons (Sub.cons (Sub.nil _) e2) e1) e0)) stops_nil) (Eq.mp (elect_Elect_See.B0_eq e term w   R (fun e_ term_ t15_ w => elect_Elect_See.B1 e_ term_ t15_ w  R)) h)
theorem elect_Elect_See.sound (e : Option Addr) (term : Int) (w : World) (R : Bool → World → Prop) (h : elect_Elect_See.B0 e term w R) : elect_Elect_See.Call e term w R := by
  have hc := calls_of_block (args := #[.pointer e, .int .i64 term]) Try.func50 (body := (Try.f50.body.getD .skip)) (by kernel_rfl) (by kernel_rfl) (args_slot _) (elect_Elect_See.B0_sound e term w h)
  exact hc.mono fun e w' he => by
    obtain ⟨v, rfl, hv⟩ := he
    exact elect_Elect_See.RV_elim hv
def elect_Elect_AskedVote.B2 (e : Option Addr) (from0 : Int) (t43 : Bool) (w : World)   (R : Bool → World → Prop) : Prop :=
  Bm t43 (
    R false w) (
    elect_Elect_Role.Call e w fun r45 w1 =>
    elect_Elect_Leader.Call e w1 fun r47 w2 =>
    elect_Elect_put.Call e r45 from0 r47 w2 fun w3 =>
    elect_Elect_wind.Call e w3 fun w4 =>
    R true w4)
theorem elect_Elect_AskedVote.B2_eq (e : Option Addr) (from0 : Int) (t43 : Bool) (w : World)   (R : Bool → World → Prop)  :
    (
  Bm t43 (
    R false w) (
    elect_Elect_Role.Call e w fun r45 w1 =>
    elect_Elect_Leader.Call e w1 fun r47 w2 =>
    elect_Elect_put.Call e r45 from0 r47 w2 fun w3 =>
    elect_Elect_wind.Call e w3 fun w4 =>
    R true w4)) = kstep Try.prog 55 Try.f51.results.toList (Try.f51.body.getD .skip) (elect_Elect_AskedVote.RV R) (kvc Try.prog 55 Try.f51.results.toList (Try.f51.body.getD .skip) (elect_Elect_AskedVote.RV R) [] 2000) [(0, [1, 1, 1, 1, 0, 1]), (0, [1, 1, 1, 1, 1])] [(0, .pointer e), (1, .int .i64 from0), (43, .bool t43)] w := by kernel_rfl
theorem elect_Elect_AskedVote.B2_sound {R : Bool → World → Prop}  (e : Option Addr) (from0 : Int) (t43 : Bool) (w : World) (h : elect_Elect_AskedVote.B2 e from0 t43 w   R) :
    KW Try.prog 51 55 (elect_Elect_AskedVote.RV R) ([(0, [1, 1, 1, 1, 0, 1]), (0, [1, 1, 1, 1, 1])].map (toItem (Try.f51.body.getD .skip))) [(0, .pointer e), (1, .int .i64 from0), (43, .bool t43)] w := by
  exact block_spec Try.func51 Try.mixed stops_nil (Eq.mp (elect_Elect_AskedVote.B2_eq e from0 t43 w   R ) h)
def elect_Elect_AskedVote.B1 (e : Option Addr) (from0 term : Int) (upToDate t19 : Bool) (w : World)   (R : Bool → World → Prop) : Prop :=
  Bm t19 (
    R false w) (
    elect_Elect_See.Call e term w fun r22 w1 =>
    elect_Elect_Vote.Call e w1 fun r24 w2 =>
    Pn e fun a =>
    LdI .i64 (a.add 1) w2 fun x29 =>
    Bm (decide (term < x29)) (
      elect_Elect_AskedVote.B2 e from0 true w2  R) (
      Bm (!upToDate) (
        elect_Elect_AskedVote.B2 e from0 true w2  R) (
        Bm (r24 != (-1 : Int)) (
          elect_Elect_AskedVote.B2 e from0 (r24 != from0) w2  R) (
          elect_Elect_AskedVote.B2 e from0 false w2  R))))
theorem elect_Elect_AskedVote.B1_eq (e : Option Addr) (from0 term : Int) (upToDate t19 : Bool) (w : World)   (R : Bool → World → Prop) (sB2 : Option Addr → Int → Bool → World → Prop) :
    (
  Bm t19 (
    R false w) (
    elect_Elect_See.Call e term w fun r22 w1 =>
    elect_Elect_Vote.Call e w1 fun r24 w2 =>
    Pn e fun a =>
    LdI .i64 (a.add 1) w2 fun x29 =>
    Bm (decide (term < x29)) (
      sB2 e from0 true w2) (
      Bm (!upToDate) (
        sB2 e from0 true w2) (
        Bm (r24 != (-1 : Int)) (
          sB2 e from0 (r24 != from0) w2) (
          sB2 e from0 false w2))))) = kstep Try.prog 55 Try.f51.results.toList (Try.f51.body.getD .skip) (elect_Elect_AskedVote.RV R) (kvc Try.prog 55 Try.f51.results.toList (Try.f51.body.getD .skip) (elect_Elect_AskedVote.RV R) [([(0, [1, 1, 1, 1, 0, 1]), (0, [1, 1, 1, 1, 1])], fun σ w => dP (slotOf σ 0) fun e_ => dI .i64 (slotOf σ 1) fun from0_ => dB (slotOf σ 43) fun t43_ => sB2 e_ from0_ t43_ w)] 2000) [(0, [1, 0, 1]), (0, [1, 1])] [(0, .pointer e), (1, .int .i64 from0), (2, .int .i64 term), (3, .bool upToDate), (19, .bool t19)] w := by kernel_rfl
theorem elect_Elect_AskedVote.B1_sound {R : Bool → World → Prop}  (e : Option Addr) (from0 term : Int) (upToDate t19 : Bool) (w : World) (h : elect_Elect_AskedVote.B1 e from0 term upToDate t19 w   R) :
    KW Try.prog 51 55 (elect_Elect_AskedVote.RV R) ([(0, [1, 0, 1]), (0, [1, 1])].map (toItem (Try.f51.body.getD .skip))) [(0, .pointer e), (1, .int .i64 from0), (2, .int .i64 term), (3, .bool upToDate), (19, .bool t19)] w := by
  exact block_spec Try.func51 Try.mixed (stops_cons (fun σ w h => by
      obtain ⟨e_, e0, h⟩ := dP_elim h
      obtain ⟨from0_, e1, h⟩ := dI_elim h
      obtain ⟨t43_, e2, h⟩ := dB_elim h
      exact (elect_Elect_AskedVote.B2_sound  e_ from0_ t43_ w h).weaken (Sub.cons (Sub.cons (Sub.cons (Sub.nil _) e2) e1) e0)) stops_nil) (Eq.mp (elect_Elect_AskedVote.B1_eq e from0 term upToDate t19 w   R (fun e_ from0_ t43_ w => elect_Elect_AskedVote.B2 e_ from0_ t43_ w  R)) h)
def elect_Elect_AskedVote.B0 (e : Option Addr) (from0 term : Int) (upToDate : Bool) (w : World)   (R : Bool → World → Prop) : Prop :=
  elect_Elect_peer.Call e from0 w fun r14 w1 =>
  Bm (!r14) (
    elect_Elect_AskedVote.B1 e from0 term upToDate true w1  R) (
    elect_Elect_AskedVote.B1 e from0 term upToDate (decide (term > (72057594037927936 : Int))) w1  R)
theorem elect_Elect_AskedVote.B0_eq (e : Option Addr) (from0 term : Int) (upToDate : Bool) (w : World)   (R : Bool → World → Prop) (sB1 : Option Addr → Int → Int → Bool → Bool → World → Prop) :
    (
  elect_Elect_peer.Call e from0 w fun r14 w1 =>
  Bm (!r14) (
    sB1 e from0 term upToDate true w1) (
    sB1 e from0 term upToDate (decide (term > (72057594037927936 : Int))) w1)) = kstep Try.prog 55 Try.f51.results.toList (Try.f51.body.getD .skip) (elect_Elect_AskedVote.RV R) (kvc Try.prog 55 Try.f51.results.toList (Try.f51.body.getD .skip) (elect_Elect_AskedVote.RV R) [([(0, [1, 0, 1]), (0, [1, 1])], fun σ w => dP (slotOf σ 0) fun e_ => dI .i64 (slotOf σ 1) fun from0_ => dI .i64 (slotOf σ 2) fun term_ => dB (slotOf σ 3) fun upToDate_ => dB (slotOf σ 19) fun t19_ => sB1 e_ from0_ term_ upToDate_ t19_ w)] 2000) [(0, [])] [(0, .pointer e), (1, .int .i64 from0), (2, .int .i64 term), (3, .bool upToDate)] w := by kernel_rfl
theorem elect_Elect_AskedVote.B0_sound {R : Bool → World → Prop}  (e : Option Addr) (from0 term : Int) (upToDate : Bool) (w : World) (h : elect_Elect_AskedVote.B0 e from0 term upToDate w   R) :
    KW Try.prog 51 55 (elect_Elect_AskedVote.RV R) ([(0, [])].map (toItem (Try.f51.body.getD .skip))) [(0, .pointer e), (1, .int .i64 from0), (2, .int .i64 term), (3, .bool upToDate)] w := by
  exact block_spec Try.func51 Try.mixed (stops_cons (fun σ w h => by
      obtain ⟨e_, e0, h⟩ := dP_elim h
      obtain ⟨from0_, e1, h⟩ := dI_elim h
      obtain ⟨term_, e2, h⟩ := dI_elim h
      obtain ⟨upToDate_, e3, h⟩ := dB_elim h
      obtain ⟨t19_, e4, h⟩ := dB_elim h
      exact (elect_Elect_AskedVote.B1_sound  e_ from0_ term_ upToDate_ t19_ w h).weaken (Sub.cons (Sub.cons (Sub.cons (Sub.cons (Sub.cons (Sub.nil _) e4) e3) e2) e1) e0)) stops_nil) (Eq.mp (elect_Elect_AskedVote.B0_eq e from0 term upToDate w   R (fun e_ from0_ term_ upToDate_ t19_ w => elect_Elect_AskedVote.B1 e_ from0_ term_ upToDate_ t19_ w  R)) h)
theorem elect_Elect_AskedVote.sound (e : Option Addr) (from0 term : Int) (upToDate : Bool) (w : World) (R : Bool → World → Prop) (h : elect_Elect_AskedVote.B0 e from0 term upToDate w R) : elect_Elect_AskedVote.Call e from0 term upToDate w R := by
  have hc := calls_of_block (args := #[.pointer e, .int .i64 from0, .int .i64 term, .bool upToDate]) Try.func51 (body := (Try.f51.body.getD .skip)) (by kernel_rfl) (by kernel_rfl) (args_slot _) (elect_Elect_AskedVote.B0_sound e from0 term upToDate w h)
  exact hc.mono fun e w' he => by
    obtain ⟨v, rfl, hv⟩ := he
    exact elect_Elect_AskedVote.RV_elim hv
def elect_Elect_GotVote.B2 (e : Option Addr) (from0 role : Int) (t38 : Bool) (w : World)   (R : Bool → World → Prop) : Prop :=
  Bm t38 (
    R false w) (
    Pn e fun a =>
    LdI .i64 (a.add 3) w.drew fun x43 =>
    elect_bit.Call from0 w.drew fun r45 w1 =>
    w1.cell? (a.add 3) = some (.int .i64 x43) ∧
    Pn e fun a_1 =>
    Sts [.int .i64 (IntKind.i64.wrap (BitVec.ofInt IntKind.i64.bits x43 ||| BitVec.ofInt IntKind.i64.bits r45).toNat)] (a_1.add 3) 0 w1 fun w2 =>
    Pn e fun a_2 =>
    LdI .i64 (a_2.add 3) w2 fun x52 =>
    elect_count.Call x52 w2 fun r53 w3 =>
    Bm (decide (r53 < (2 : Int))) (
      R false w3) (
      elect_turn.Call role (3 : Int) w3 fun r56 w4 =>
      elect_Elect_Vote.Call e w4 fun r58 w5 =>
      Pn e fun a_3 =>
      LdI .i64 a_3 w5 fun x65 =>
      elect_Elect_put.Call e r56 r58 x65 w5 fun w6 =>
      elect_Elect_wind.Call e w6 fun w7 =>
      R true w7))
theorem elect_Elect_GotVote.B2_eq (e : Option Addr) (from0 role : Int) (t38 : Bool) (w : World)   (R : Bool → World → Prop)  :
    (
  Bm t38 (
    R false w) (
    Pn e fun a =>
    LdI .i64 (a.add 3) w.drew fun x43 =>
    elect_bit.Call from0 w.drew fun r45 w1 =>
    w1.cell? (a.add 3) = some (.int .i64 x43) ∧
    Pn e fun a_1 =>
    Sts [.int .i64 (IntKind.i64.wrap (BitVec.ofInt IntKind.i64.bits x43 ||| BitVec.ofInt IntKind.i64.bits r45).toNat)] (a_1.add 3) 0 w1 fun w2 =>
    Pn e fun a_2 =>
    LdI .i64 (a_2.add 3) w2 fun x52 =>
    elect_count.Call x52 w2 fun r53 w3 =>
    Bm (decide (r53 < (2 : Int))) (
      R false w3) (
      elect_turn.Call role (3 : Int) w3 fun r56 w4 =>
      elect_Elect_Vote.Call e w4 fun r58 w5 =>
      Pn e fun a_3 =>
      LdI .i64 a_3 w5 fun x65 =>
      elect_Elect_put.Call e r56 r58 x65 w5 fun w6 =>
      elect_Elect_wind.Call e w6 fun w7 =>
      R true w7))) = kstep Try.prog 69 Try.f52.results.toList (Try.f52.body.getD .skip) (elect_Elect_GotVote.RV R) (kvc Try.prog 69 Try.f52.results.toList (Try.f52.body.getD .skip) (elect_Elect_GotVote.RV R) [] 2000) [(0, [1, 1, 1, 1, 0, 1]), (0, [1, 1, 1, 1, 1])] [(0, .pointer e), (1, .int .i64 from0), (9, .int .i64 role), (38, .bool t38)] w := by kernel_rfl
theorem elect_Elect_GotVote.B2_sound {R : Bool → World → Prop}  (e : Option Addr) (from0 role : Int) (t38 : Bool) (w : World) (h : elect_Elect_GotVote.B2 e from0 role t38 w   R) :
    KW Try.prog 52 69 (elect_Elect_GotVote.RV R) ([(0, [1, 1, 1, 1, 0, 1]), (0, [1, 1, 1, 1, 1])].map (toItem (Try.f52.body.getD .skip))) [(0, .pointer e), (1, .int .i64 from0), (9, .int .i64 role), (38, .bool t38)] w := by
  exact block_spec Try.func52 Try.mixed stops_nil (Eq.mp (elect_Elect_GotVote.B2_eq e from0 role t38 w   R ) h)
def elect_Elect_GotVote.B1 (e : Option Addr) (from0 term : Int) (granted t18 : Bool) (w : World)   (R : Bool → World → Prop) : Prop :=
  Bm t18 (
    R false w) (
    elect_Elect_See.Call e term w fun r21 w1 =>
    Bm r21 (
      R false w1) (
      elect_Elect_Role.Call e w1 fun r23 w2 =>
      elect_turn.Call r23 (2 : Int) w2 fun r25 w3 =>
      Bm (decide (r25 < (0 : Int))) (
        elect_Elect_GotVote.B2 e from0 r23 true w3  R) (
        Pn e fun a =>
        LdI .i64 (a.add 1) w3 fun x32 =>
        Bm (decide (term < x32)) (
          elect_Elect_GotVote.B2 e from0 r23 true w3  R) (
          elect_Elect_GotVote.B2 e from0 r23 (!granted) w3  R))))
theorem elect_Elect_GotVote.B1_eq (e : Option Addr) (from0 term : Int) (granted t18 : Bool) (w : World)   (R : Bool → World → Prop) (sB2 : Option Addr → Int → Int → Bool → World → Prop) :
    (
  Bm t18 (
    R false w) (
    elect_Elect_See.Call e term w fun r21 w1 =>
    Bm r21 (
      R false w1) (
      elect_Elect_Role.Call e w1 fun r23 w2 =>
      elect_turn.Call r23 (2 : Int) w2 fun r25 w3 =>
      Bm (decide (r25 < (0 : Int))) (
        sB2 e from0 r23 true w3) (
        Pn e fun a =>
        LdI .i64 (a.add 1) w3 fun x32 =>
        Bm (decide (term < x32)) (
          sB2 e from0 r23 true w3) (
          sB2 e from0 r23 (!granted) w3))))) = kstep Try.prog 69 Try.f52.results.toList (Try.f52.body.getD .skip) (elect_Elect_GotVote.RV R) (kvc Try.prog 69 Try.f52.results.toList (Try.f52.body.getD .skip) (elect_Elect_GotVote.RV R) [([(0, [1, 1, 1, 1, 0, 1]), (0, [1, 1, 1, 1, 1])], fun σ w => dP (slotOf σ 0) fun e_ => dI .i64 (slotOf σ 1) fun from0_ => dI .i64 (slotOf σ 9) fun role_ => dB (slotOf σ 38) fun t38_ => sB2 e_ from0_ role_ t38_ w)] 2000) [(0, [1, 0, 1]), (0, [1, 1])] [(0, .pointer e), (1, .int .i64 from0), (2, .int .i64 term), (3, .bool granted), (18, .bool t18)] w := by kernel_rfl
theorem elect_Elect_GotVote.B1_sound {R : Bool → World → Prop}  (e : Option Addr) (from0 term : Int) (granted t18 : Bool) (w : World) (h : elect_Elect_GotVote.B1 e from0 term granted t18 w   R) :
    KW Try.prog 52 69 (elect_Elect_GotVote.RV R) ([(0, [1, 0, 1]), (0, [1, 1])].map (toItem (Try.f52.body.getD .skip))) [(0, .pointer e), (1, .int .i64 from0), (2, .int .i64 term), (3, .bool granted), (18, .bool t18)] w := by
  exact block_spec Try.func52 Try.mixed (stops_cons (fun σ w h => by
      obtain ⟨e_, e0, h⟩ := dP_elim h
      obtain ⟨from0_, e1, h⟩ := dI_elim h
      obtain ⟨role_, e2, h⟩ := dI_elim h
      obtain ⟨t38_, e3, h⟩ := dB_elim h
      exact (elect_Elect_GotVote.B2_sound  e_ from0_ role_ t38_ w h).weaken (Sub.cons (Sub.cons (Sub.cons (Sub.cons (Sub.nil _) e3) e2) e1) e0)) stops_nil) (Eq.mp (elect_Elect_GotVote.B1_eq e from0 term granted t18 w   R (fun e_ from0_ role_ t38_ w => elect_Elect_GotVote.B2 e_ from0_ role_ t38_ w  R)) h)
def elect_Elect_GotVote.B0 (e : Option Addr) (from0 term : Int) (granted : Bool) (w : World)   (R : Bool → World → Prop) : Prop :=
  elect_Elect_peer.Call e from0 w fun r13 w1 =>
  Bm (!r13) (
    elect_Elect_GotVote.B1 e from0 term granted true w1  R) (
    elect_Elect_GotVote.B1 e from0 term granted (decide (term > (72057594037927936 : Int))) w1  R)
theorem elect_Elect_GotVote.B0_eq (e : Option Addr) (from0 term : Int) (granted : Bool) (w : World)   (R : Bool → World → Prop) (sB1 : Option Addr → Int → Int → Bool → Bool → World → Prop) :
    (
  elect_Elect_peer.Call e from0 w fun r13 w1 =>
  Bm (!r13) (
    sB1 e from0 term granted true w1) (
    sB1 e from0 term granted (decide (term > (72057594037927936 : Int))) w1)) = kstep Try.prog 69 Try.f52.results.toList (Try.f52.body.getD .skip) (elect_Elect_GotVote.RV R) (kvc Try.prog 69 Try.f52.results.toList (Try.f52.body.getD .skip) (elect_Elect_GotVote.RV R) [([(0, [1, 0, 1]), (0, [1, 1])], fun σ w => dP (slotOf σ 0) fun e_ => dI .i64 (slotOf σ 1) fun from0_ => dI .i64 (slotOf σ 2) fun term_ => dB (slotOf σ 3) fun granted_ => dB (slotOf σ 18) fun t18_ => sB1 e_ from0_ term_ granted_ t18_ w)] 2000) [(0, [])] [(0, .pointer e), (1, .int .i64 from0), (2, .int .i64 term), (3, .bool granted)] w := by kernel_rfl
theorem elect_Elect_GotVote.B0_sound {R : Bool → World → Prop}  (e : Option Addr) (from0 term : Int) (granted : Bool) (w : World) (h : elect_Elect_GotVote.B0 e from0 term granted w   R) :
    KW Try.prog 52 69 (elect_Elect_GotVote.RV R) ([(0, [])].map (toItem (Try.f52.body.getD .skip))) [(0, .pointer e), (1, .int .i64 from0), (2, .int .i64 term), (3, .bool granted)] w := by
  exact block_spec Try.func52 Try.mixed (stops_cons (fun σ w h => by
      obtain ⟨e_, e0, h⟩ := dP_elim h
      obtain ⟨from0_, e1, h⟩ := dI_elim h
      obtain ⟨term_, e2, h⟩ := dI_elim h
      obtain ⟨granted_, e3, h⟩ := dB_elim h
      obtain ⟨t18_, e4, h⟩ := dB_elim h
      exact (elect_Elect_GotVote.B1_sound  e_ from0_ term_ granted_ t18_ w h).weaken (Sub.cons (Sub.cons (Sub.cons (Sub.cons (Sub.cons (Sub.nil _) e4) e3) e2) e1) e0)) stops_nil) (Eq.mp (elect_Elect_GotVote.B0_eq e from0 term granted w   R (fun e_ from0_ term_ granted_ t18_ w => elect_Elect_GotVote.B1 e_ from0_ term_ granted_ t18_ w  R)) h)
theorem elect_Elect_GotVote.sound (e : Option Addr) (from0 term : Int) (granted : Bool) (w : World) (R : Bool → World → Prop) (h : elect_Elect_GotVote.B0 e from0 term granted w R) : elect_Elect_GotVote.Call e from0 term granted w R := by
  have hc := calls_of_block (args := #[.pointer e, .int .i64 from0, .int .i64 term, .bool granted]) Try.func52 (body := (Try.f52.body.getD .skip)) (by kernel_rfl) (by kernel_rfl) (args_slot _) (elect_Elect_GotVote.B0_sound e from0 term granted w h)
  exact hc.mono fun e w' he => by
    obtain ⟨v, rfl, hv⟩ := he
    exact elect_Elect_GotVote.RV_elim hv
def elect_Elect_Heard.B2 (e : Option Addr) (from0 role : Int) (t33 : Bool) (w : World)   (R : Bool → World → Prop) : Prop :=
  Bm t33 (
    R false w) (
    elect_Elect_Vote.Call e w fun r35 w1 =>
    Pn e fun a =>
    Sts [.int .i64 (0 : Int)] (a.add 3) 0 w1 fun w2 =>
    elect_Elect_put.Call e role r35 from0 w2 fun w3 =>
    elect_Elect_wind.Call e w3 fun w4 =>
    R true w4)
theorem elect_Elect_Heard.B2_eq (e : Option Addr) (from0 role : Int) (t33 : Bool) (w : World)   (R : Bool → World → Prop)  :
    (
  Bm t33 (
    R false w) (
    elect_Elect_Vote.Call e w fun r35 w1 =>
    Pn e fun a =>
    Sts [.int .i64 (0 : Int)] (a.add 3) 0 w1 fun w2 =>
    elect_Elect_put.Call e role r35 from0 w2 fun w3 =>
    elect_Elect_wind.Call e w3 fun w4 =>
    R true w4)) = kstep Try.prog 46 Try.f53.results.toList (Try.f53.body.getD .skip) (elect_Elect_Heard.RV R) (kvc Try.prog 46 Try.f53.results.toList (Try.f53.body.getD .skip) (elect_Elect_Heard.RV R) [] 2000) [(0, [1, 1, 1, 1, 1, 0, 1]), (0, [1, 1, 1, 1, 1, 1])] [(0, .pointer e), (1, .int .i64 from0), (7, .int .i64 role), (33, .bool t33)] w := by kernel_rfl
theorem elect_Elect_Heard.B2_sound {R : Bool → World → Prop}  (e : Option Addr) (from0 role : Int) (t33 : Bool) (w : World) (h : elect_Elect_Heard.B2 e from0 role t33 w   R) :
    KW Try.prog 53 46 (elect_Elect_Heard.RV R) ([(0, [1, 1, 1, 1, 1, 0, 1]), (0, [1, 1, 1, 1, 1, 1])].map (toItem (Try.f53.body.getD .skip))) [(0, .pointer e), (1, .int .i64 from0), (7, .int .i64 role), (33, .bool t33)] w := by
  exact block_spec Try.func53 Try.mixed stops_nil (Eq.mp (elect_Elect_Heard.B2_eq e from0 role t33 w   R ) h)
def elect_Elect_Heard.B1 (e : Option Addr) (from0 term : Int) (t16 : Bool) (w : World)   (R : Bool → World → Prop) : Prop :=
  Bm t16 (
    R false w) (
    elect_Elect_See.Call e term w fun r19 w1 =>
    elect_Elect_Role.Call e w1 fun r21 w2 =>
    elect_turn.Call r21 (4 : Int) w2 fun r23 w3 =>
    Pn e fun a =>
    LdI .i64 (a.add 1) w3 fun x28 =>
    Bm (decide (term < x28)) (
      elect_Elect_Heard.B2 e from0 r23 true w3  R) (
      elect_Elect_Heard.B2 e from0 r23 (decide (r23 < (0 : Int))) w3  R))
theorem elect_Elect_Heard.B1_eq (e : Option Addr) (from0 term : Int) (t16 : Bool) (w : World)   (R : Bool → World → Prop) (sB2 : Option Addr → Int → Int → Bool → World → Prop) :
    (
  Bm t16 (
    R false w) (
    elect_Elect_See.Call e term w fun r19 w1 =>
    elect_Elect_Role.Call e w1 fun r21 w2 =>
    elect_turn.Call r21 (4 : Int) w2 fun r23 w3 =>
    Pn e fun a =>
    LdI .i64 (a.add 1) w3 fun x28 =>
    Bm (decide (term < x28)) (
      sB2 e from0 r23 true w3) (
      sB2 e from0 r23 (decide (r23 < (0 : Int))) w3))) = kstep Try.prog 46 Try.f53.results.toList (Try.f53.body.getD .skip) (elect_Elect_Heard.RV R) (kvc Try.prog 46 Try.f53.results.toList (Try.f53.body.getD .skip) (elect_Elect_Heard.RV R) [([(0, [1, 1, 1, 1, 1, 0, 1]), (0, [1, 1, 1, 1, 1, 1])], fun σ w => dP (slotOf σ 0) fun e_ => dI .i64 (slotOf σ 1) fun from0_ => dI .i64 (slotOf σ 7) fun role_ => dB (slotOf σ 33) fun t33_ => sB2 e_ from0_ role_ t33_ w)] 2000) [(0, [1, 0, 1]), (0, [1, 1])] [(0, .pointer e), (1, .int .i64 from0), (2, .int .i64 term), (16, .bool t16)] w := by kernel_rfl
theorem elect_Elect_Heard.B1_sound {R : Bool → World → Prop}  (e : Option Addr) (from0 term : Int) (t16 : Bool) (w : World) (h : elect_Elect_Heard.B1 e from0 term t16 w   R) :
    KW Try.prog 53 46 (elect_Elect_Heard.RV R) ([(0, [1, 0, 1]), (0, [1, 1])].map (toItem (Try.f53.body.getD .skip))) [(0, .pointer e), (1, .int .i64 from0), (2, .int .i64 term), (16, .bool t16)] w := by
  exact block_spec Try.func53 Try.mixed (stops_cons (fun σ w h => by
      obtain ⟨e_, e0, h⟩ := dP_elim h
      obtain ⟨from0_, e1, h⟩ := dI_elim h
      obtain ⟨role_, e2, h⟩ := dI_elim h
      obtain ⟨t33_, e3, h⟩ := dB_elim h
      exact (elect_Elect_Heard.B2_sound  e_ from0_ role_ t33_ w h).weaken (Sub.cons (Sub.cons (Sub.cons (Sub.cons (Sub.nil _) e3) e2) e1) e0)) stops_nil) (Eq.mp (elect_Elect_Heard.B1_eq e from0 term t16 w   R (fun e_ from0_ role_ t33_ w => elect_Elect_Heard.B2 e_ from0_ role_ t33_ w  R)) h)
def elect_Elect_Heard.B0 (e : Option Addr) (from0 term : Int) (w : World)   (R : Bool → World → Prop) : Prop :=
  elect_Elect_peer.Call e from0 w fun r11 w1 =>
  Bm (!r11) (
    elect_Elect_Heard.B1 e from0 term true w1  R) (
    elect_Elect_Heard.B1 e from0 term (decide (term > (72057594037927936 : Int))) w1  R)
theorem elect_Elect_Heard.B0_eq (e : Option Addr) (from0 term : Int) (w : World)   (R : Bool → World → Prop) (sB1 : Option Addr → Int → Int → Bool → World → Prop) :
    (
  elect_Elect_peer.Call e from0 w fun r11 w1 =>
  Bm (!r11) (
    sB1 e from0 term true w1) (
    sB1 e from0 term (decide (term > (72057594037927936 : Int))) w1)) = kstep Try.prog 46 Try.f53.results.toList (Try.f53.body.getD .skip) (elect_Elect_Heard.RV R) (kvc Try.prog 46 Try.f53.results.toList (Try.f53.body.getD .skip) (elect_Elect_Heard.RV R) [([(0, [1, 0, 1]), (0, [1, 1])], fun σ w => dP (slotOf σ 0) fun e_ => dI .i64 (slotOf σ 1) fun from0_ => dI .i64 (slotOf σ 2) fun term_ => dB (slotOf σ 16) fun t16_ => sB1 e_ from0_ term_ t16_ w)] 2000) [(0, [])] [(0, .pointer e), (1, .int .i64 from0), (2, .int .i64 term)] w := by kernel_rfl
theorem elect_Elect_Heard.B0_sound {R : Bool → World → Prop}  (e : Option Addr) (from0 term : Int) (w : World) (h : elect_Elect_Heard.B0 e from0 term w   R) :
    KW Try.prog 53 46 (elect_Elect_Heard.RV R) ([(0, [])].map (toItem (Try.f53.body.getD .skip))) [(0, .pointer e), (1, .int .i64 from0), (2, .int .i64 term)] w := by
  exact block_spec Try.func53 Try.mixed (stops_cons (fun σ w h => by
      obtain ⟨e_, e0, h⟩ := dP_elim h
      obtain ⟨from0_, e1, h⟩ := dI_elim h
      obtain ⟨term_, e2, h⟩ := dI_elim h
      obtain ⟨t16_, e3, h⟩ := dB_elim h
      exact (elect_Elect_Heard.B1_sound  e_ from0_ term_ t16_ w h).weaken (Sub.cons (Sub.cons (Sub.cons (Sub.cons (Sub.nil _) e3) e2) e1) e0)) stops_nil) (Eq.mp (elect_Elect_Heard.B0_eq e from0 term w   R (fun e_ from0_ term_ t16_ w => elect_Elect_Heard.B1 e_ from0_ term_ t16_ w  R)) h)
theorem elect_Elect_Heard.sound (e : Option Addr) (from0 term : Int) (w : World) (R : Bool → World → Prop) (h : elect_Elect_Heard.B0 e from0 term w R) : elect_Elect_Heard.Call e from0 term w R := by
  have hc := calls_of_block (args := #[.pointer e, .int .i64 from0, .int .i64 term]) Try.func53 (body := (Try.f53.body.getD .skip)) (by kernel_rfl) (by kernel_rfl) (args_slot _) (elect_Elect_Heard.B0_sound e from0 term w h)
  exact hc.mono fun e w' he => by
    obtain ⟨v, rfl, hv⟩ := he
    exact elect_Elect_Heard.RV_elim hv
def elect_Elect_Restore.B1 (e : Option Addr) (term vote : Int) (t20 : Bool) (w : World)   (R : Int → World → Prop) : Prop :=
  Bm t20 (
    R (1 : Int) w) (
    Pn e fun a =>
    Sts [.int .i64 term] (a.add 1) 0 w fun w1 =>
    Pn e fun a_1 =>
    Sts [.int .i64 (0 : Int)] (a_1.add 3) 0 w1 fun w2 =>
    elect_Elect_put.Call e (0 : Int) vote (-1 : Int) w2 fun w3 =>
    elect_Elect_wind.Call e w3 fun w4 =>
    R (0 : Int) w4)
theorem elect_Elect_Restore.B1_eq (e : Option Addr) (term vote : Int) (t20 : Bool) (w : World)   (R : Int → World → Prop)  :
    (
  Bm t20 (
    R (1 : Int) w) (
    Pn e fun a =>
    Sts [.int .i64 term] (a.add 1) 0 w fun w1 =>
    Pn e fun a_1 =>
    Sts [.int .i64 (0 : Int)] (a_1.add 3) 0 w1 fun w2 =>
    elect_Elect_put.Call e (0 : Int) vote (-1 : Int) w2 fun w3 =>
    elect_Elect_wind.Call e w3 fun w4 =>
    R (0 : Int) w4)) = kstep Try.prog 33 Try.f54.results.toList (Try.f54.body.getD .skip) (elect_Elect_Restore.RV R) (kvc Try.prog 33 Try.f54.results.toList (Try.f54.body.getD .skip) (elect_Elect_Restore.RV R) [] 2000) [(0, [1, 0, 1]), (0, [1, 1])] [(0, .pointer e), (1, .int .i64 term), (2, .int .i64 vote), (20, .bool t20)] w := by kernel_rfl
theorem elect_Elect_Restore.B1_sound {R : Int → World → Prop}  (e : Option Addr) (term vote : Int) (t20 : Bool) (w : World) (h : elect_Elect_Restore.B1 e term vote t20 w   R) :
    KW Try.prog 54 33 (elect_Elect_Restore.RV R) ([(0, [1, 0, 1]), (0, [1, 1])].map (toItem (Try.f54.body.getD .skip))) [(0, .pointer e), (1, .int .i64 term), (2, .int .i64 vote), (20, .bool t20)] w := by
  exact block_spec Try.func54 Try.mixed stops_nil (Eq.mp (elect_Elect_Restore.B1_eq e term vote t20 w   R ) h)
def elect_Elect_Restore.B0 (e : Option Addr) (term vote : Int) (w : World)   (R : Int → World → Prop) : Prop :=
  Bm (decide (term < (0 : Int))) (
    elect_Elect_Restore.B1 e term vote true w  R) (
    Bm (decide (term > (72057594037927936 : Int))) (
      elect_Elect_Restore.B1 e term vote true w  R) (
      Bm (decide (vote < (-1 : Int))) (
        elect_Elect_Restore.B1 e term vote true w  R) (
        elect_Elect_Restore.B1 e term vote (decide (vote ≥ (3 : Int))) w  R)))
theorem elect_Elect_Restore.B0_eq (e : Option Addr) (term vote : Int) (w : World)   (R : Int → World → Prop) (sB1 : Option Addr → Int → Int → Bool → World → Prop) :
    (
  Bm (decide (term < (0 : Int))) (
    sB1 e term vote true w) (
    Bm (decide (term > (72057594037927936 : Int))) (
      sB1 e term vote true w) (
      Bm (decide (vote < (-1 : Int))) (
        sB1 e term vote true w) (
        sB1 e term vote (decide (vote ≥ (3 : Int))) w)))) = kstep Try.prog 33 Try.f54.results.toList (Try.f54.body.getD .skip) (elect_Elect_Restore.RV R) (kvc Try.prog 33 Try.f54.results.toList (Try.f54.body.getD .skip) (elect_Elect_Restore.RV R) [([(0, [1, 0, 1]), (0, [1, 1])], fun σ w => dP (slotOf σ 0) fun e_ => dI .i64 (slotOf σ 1) fun term_ => dI .i64 (slotOf σ 2) fun vote_ => dB (slotOf σ 20) fun t20_ => sB1 e_ term_ vote_ t20_ w)] 2000) [(0, [])] [(0, .pointer e), (1, .int .i64 term), (2, .int .i64 vote)] w := by kernel_rfl
theorem elect_Elect_Restore.B0_sound {R : Int → World → Prop}  (e : Option Addr) (term vote : Int) (w : World) (h : elect_Elect_Restore.B0 e term vote w   R) :
    KW Try.prog 54 33 (elect_Elect_Restore.RV R) ([(0, [])].map (toItem (Try.f54.body.getD .skip))) [(0, .pointer e), (1, .int .i64 term), (2, .int .i64 vote)] w := by
  exact block_spec Try.func54 Try.mixed (stops_cons (fun σ w h => by
      obtain ⟨e_, e0, h⟩ := dP_elim h
      obtain ⟨term_, e1, h⟩ := dI_elim h
      obtain ⟨vote_, e2, h⟩ := dI_elim h
      obtain ⟨t20_, e3, h⟩ := dB_elim h
      exact (elect_Elect_Restore.B1_sound  e_ term_ vote_ t20_ w h).weaken (Sub.cons (Sub.cons (Sub.cons (Sub.cons (Sub.nil _) e3) e2) e1) e0)) stops_nil) (Eq.mp (elect_Elect_Restore.B0_eq e term vote w   R (fun e_ term_ vote_ t20_ w => elect_Elect_Restore.B1 e_ term_ vote_ t20_ w  R)) h)
theorem elect_Elect_Restore.sound (e : Option Addr) (term vote : Int) (w : World) (R : Int → World → Prop) (h : elect_Elect_Restore.B0 e term vote w R) : elect_Elect_Restore.Call e term vote w R := by
  have hc := calls_of_block (args := #[.pointer e, .int .i64 term, .int .i64 vote]) Try.func54 (body := (Try.f54.body.getD .skip)) (by kernel_rfl) (by kernel_rfl) (args_slot _) (elect_Elect_Restore.B0_sound e term vote w h)
  exact hc.mono fun e w' he => by
    obtain ⟨v, rfl, hv⟩ := he
    exact elect_Elect_Restore.RV_elim hv
def elect_Elect_Id.B0 (e : Option Addr) (w : World)   (R : Int → World → Prop) : Prop :=
  Pn e fun a =>
  LdI .i64 a w fun x6 =>
  R x6 w
theorem elect_Elect_Id.B0_eq (e : Option Addr) (w : World)   (R : Int → World → Prop)  :
    (
  Pn e fun a =>
  LdI .i64 a w fun x6 =>
  R x6 w) = kstep Try.prog 7 Try.f55.results.toList (Try.f55.body.getD .skip) (elect_Elect_Id.RV R) (kvc Try.prog 7 Try.f55.results.toList (Try.f55.body.getD .skip) (elect_Elect_Id.RV R) [] 2000) [(0, [])] [(0, .pointer e)] w := by kernel_rfl
theorem elect_Elect_Id.B0_sound {R : Int → World → Prop}  (e : Option Addr) (w : World) (h : elect_Elect_Id.B0 e w   R) :
    KW Try.prog 55 7 (elect_Elect_Id.RV R) ([(0, [])].map (toItem (Try.f55.body.getD .skip))) [(0, .pointer e)] w := by
  exact block_spec Try.func55 Try.mixed stops_nil (Eq.mp (elect_Elect_Id.B0_eq e w   R ) h)
theorem elect_Elect_Id.sound (e : Option Addr) (w : World) (R : Int → World → Prop) (h : elect_Elect_Id.B0 e w R) : elect_Elect_Id.Call e w R := by
  have hc := calls_of_block (args := #[.pointer e]) Try.func55 (body := (Try.f55.body.getD .skip)) (by kernel_rfl) (by kernel_rfl) (args_slot _) (elect_Elect_Id.B0_sound e w h)
  exact hc.mono fun e w' he => by
    obtain ⟨v, rfl, hv⟩ := he
    exact elect_Elect_Id.RV_elim hv
def elect_Elect_Term.B0 (e : Option Addr) (w : World)   (R : Int → World → Prop) : Prop :=
  Pn e fun a =>
  LdI .i64 (a.add 1) w fun x6 =>
  R x6 w
theorem elect_Elect_Term.B0_eq (e : Option Addr) (w : World)   (R : Int → World → Prop)  :
    (
  Pn e fun a =>
  LdI .i64 (a.add 1) w fun x6 =>
  R x6 w) = kstep Try.prog 7 Try.f56.results.toList (Try.f56.body.getD .skip) (elect_Elect_Term.RV R) (kvc Try.prog 7 Try.f56.results.toList (Try.f56.body.getD .skip) (elect_Elect_Term.RV R) [] 2000) [(0, [])] [(0, .pointer e)] w := by kernel_rfl
theorem elect_Elect_Term.B0_sound {R : Int → World → Prop}  (e : Option Addr) (w : World) (h : elect_Elect_Term.B0 e w   R) :
    KW Try.prog 56 7 (elect_Elect_Term.RV R) ([(0, [])].map (toItem (Try.f56.body.getD .skip))) [(0, .pointer e)] w := by
  exact block_spec Try.func56 Try.mixed stops_nil (Eq.mp (elect_Elect_Term.B0_eq e w   R ) h)
theorem elect_Elect_Term.sound (e : Option Addr) (w : World) (R : Int → World → Prop) (h : elect_Elect_Term.B0 e w R) : elect_Elect_Term.Call e w R := by
  have hc := calls_of_block (args := #[.pointer e]) Try.func56 (body := (Try.f56.body.getD .skip)) (by kernel_rfl) (by kernel_rfl) (args_slot _) (elect_Elect_Term.B0_sound e w h)
  exact hc.mono fun e w' he => by
    obtain ⟨v, rfl, hv⟩ := he
    exact elect_Elect_Term.RV_elim hv
def elect_Elect_Vote.B0 (e : Option Addr) (w : World)   (R : Int → World → Prop) : Prop :=
  Pn e fun a =>
  LdI .i64 (a.add 2) w fun x6 =>
  0 ≤ (2 : Int) ∧
  R (IntKind.i64.wrap ((IntKind.i64.wrap (BitVec.ofInt IntKind.i64.bits (x6.fdiv (2 ^ (min (2 : Int).toNat IntKind.i64.bits))) &&& BitVec.ofInt IntKind.i64.bits (3 : Int)).toNat) - (1 : Int))) w
theorem elect_Elect_Vote.B0_eq (e : Option Addr) (w : World)   (R : Int → World → Prop)  :
    (
  Pn e fun a =>
  LdI .i64 (a.add 2) w fun x6 =>
  0 ≤ (2 : Int) ∧
  R (IntKind.i64.wrap ((IntKind.i64.wrap (BitVec.ofInt IntKind.i64.bits (x6.fdiv (2 ^ (min (2 : Int).toNat IntKind.i64.bits))) &&& BitVec.ofInt IntKind.i64.bits (3 : Int)).toNat) - (1 : Int))) w) = kstep Try.prog 10 Try.f57.results.toList (Try.f57.body.getD .skip) (elect_Elect_Vote.RV R) (kvc Try.prog 10 Try.f57.results.toList (Try.f57.body.getD .skip) (elect_Elect_Vote.RV R) [] 2000) [(0, [])] [(0, .pointer e)] w := by kernel_rfl
theorem elect_Elect_Vote.B0_sound {R : Int → World → Prop}  (e : Option Addr) (w : World) (h : elect_Elect_Vote.B0 e w   R) :
    KW Try.prog 57 10 (elect_Elect_Vote.RV R) ([(0, [])].map (toItem (Try.f57.body.getD .skip))) [(0, .pointer e)] w := by
  exact block_spec Try.func57 Try.mixed stops_nil (Eq.mp (elect_Elect_Vote.B0_eq e w   R ) h)
theorem elect_Elect_Vote.sound (e : Option Addr) (w : World) (R : Int → World → Prop) (h : elect_Elect_Vote.B0 e w R) : elect_Elect_Vote.Call e w R := by
  have hc := calls_of_block (args := #[.pointer e]) Try.func57 (body := (Try.f57.body.getD .skip)) (by kernel_rfl) (by kernel_rfl) (args_slot _) (elect_Elect_Vote.B0_sound e w h)
  exact hc.mono fun e w' he => by
    obtain ⟨v, rfl, hv⟩ := he
    exact elect_Elect_Vote.RV_elim hv
def elect_Elect_Role.B0 (e : Option Addr) (w : World)   (R : Int → World → Prop) : Prop :=
  Pn e fun a =>
  LdI .i64 (a.add 2) w fun x6 =>
  R (IntKind.i64.wrap (BitVec.ofInt IntKind.i64.bits x6 &&& BitVec.ofInt IntKind.i64.bits (3 : Int)).toNat) w
theorem elect_Elect_Role.B0_eq (e : Option Addr) (w : World)   (R : Int → World → Prop)  :
    (
  Pn e fun a =>
  LdI .i64 (a.add 2) w fun x6 =>
  R (IntKind.i64.wrap (BitVec.ofInt IntKind.i64.bits x6 &&& BitVec.ofInt IntKind.i64.bits (3 : Int)).toNat) w) = kstep Try.prog 8 Try.f58.results.toList (Try.f58.body.getD .skip) (elect_Elect_Role.RV R) (kvc Try.prog 8 Try.f58.results.toList (Try.f58.body.getD .skip) (elect_Elect_Role.RV R) [] 2000) [(0, [])] [(0, .pointer e)] w := by kernel_rfl
theorem elect_Elect_Role.B0_sound {R : Int → World → Prop}  (e : Option Addr) (w : World) (h : elect_Elect_Role.B0 e w   R) :
    KW Try.prog 58 8 (elect_Elect_Role.RV R) ([(0, [])].map (toItem (Try.f58.body.getD .skip))) [(0, .pointer e)] w := by
  exact block_spec Try.func58 Try.mixed stops_nil (Eq.mp (elect_Elect_Role.B0_eq e w   R ) h)
theorem elect_Elect_Role.sound (e : Option Addr) (w : World) (R : Int → World → Prop) (h : elect_Elect_Role.B0 e w R) : elect_Elect_Role.Call e w R := by
  have hc := calls_of_block (args := #[.pointer e]) Try.func58 (body := (Try.f58.body.getD .skip)) (by kernel_rfl) (by kernel_rfl) (args_slot _) (elect_Elect_Role.B0_sound e w h)
  exact hc.mono fun e w' he => by
    obtain ⟨v, rfl, hv⟩ := he
    exact elect_Elect_Role.RV_elim hv
end Go.Proofs.Qxb6500428a
