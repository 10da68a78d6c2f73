import Derived.Test.Qxb6500430aGreatSig
set_option maxRecDepth 100000
set_option linter.unusedVariables false
open Go.Vc
namespace Go.Proofs.Qxb6500430aGreat
def elect_Elect_put.B0 (e : Option Addr) (role vote leader : Int) (w : World)   (R : World → Prop) : Prop :=
  0 ≤ (2 : Int) ∧
  0 ≤ (4 : Int) ∧
  Pn e fun a =>
  Sts [.int .i64 (IntKind.i64.wrap (BitVec.ofInt IntKind.i64.bits (IntKind.i64.wrap (BitVec.ofInt IntKind.i64.bits role ||| BitVec.ofInt IntKind.i64.bits (IntKind.i64.wrap ((IntKind.i64.wrap (vote + (1 : Int))) * 2 ^ (min (2 : Int).toNat IntKind.i64.bits)))).toNat) ||| BitVec.ofInt IntKind.i64.bits (IntKind.i64.wrap ((IntKind.i64.wrap (leader + (1 : Int))) * 2 ^ (min (4 : Int).toNat IntKind.i64.bits)))).toNat)] (a.add 2) 0 w fun w1 =>
  R  w1
theorem elect_Elect_put.B0_eq (e : Option Addr) (role vote leader : Int) (w : World)   (R : World → Prop)  :
    (
  0 ≤ (2 : Int) ∧
  0 ≤ (4 : Int) ∧
  Pn e fun a =>
  Sts [.int .i64 (IntKind.i64.wrap (BitVec.ofInt IntKind.i64.bits (IntKind.i64.wrap (BitVec.ofInt IntKind.i64.bits role ||| BitVec.ofInt IntKind.i64.bits (IntKind.i64.wrap ((IntKind.i64.wrap (vote + (1 : Int))) * 2 ^ (min (2 : Int).toNat IntKind.i64.bits)))).toNat) ||| BitVec.ofInt IntKind.i64.bits (IntKind.i64.wrap ((IntKind.i64.wrap (leader + (1 : Int))) * 2 ^ (min (4 : Int).toNat IntKind.i64.bits)))).toNat)] (a.add 2) 0 w fun w1 =>
  R  w1) = kstep Tryz.prog 20 Tryz.f127.results.toList (Tryz.f127.body.getD .skip) (elect_Elect_put.RV R) (kvc Tryz.prog 20 Tryz.f127.results.toList (Tryz.f127.body.getD .skip) (elect_Elect_put.RV R) [] 2000) [(0, [])] [(0, .pointer e), (1, .int .i64 role), (2, .int .i64 vote), (3, .int .i64 leader)] w := by kernel_rfl
theorem elect_Elect_put.B0_sound {R : World → Prop}  (e : Option Addr) (role vote leader : Int) (w : World) (h : elect_Elect_put.B0 e role vote leader w   R) :
    KW Tryz.prog 127 20 (elect_Elect_put.RV R) ([(0, [])].map (toItem (Tryz.f127.body.getD .skip))) [(0, .pointer e), (1, .int .i64 role), (2, .int .i64 vote), (3, .int .i64 leader)] w := by
  exact block_spec Tryz.func127 Tryz.mixed stops_nil (Eq.mp (elect_Elect_put.B0_eq e role vote leader w   R ) h)
theorem elect_Elect_put.sound (e : Option Addr) (role vote leader : Int) (w : World) (R : World → Prop) (h : elect_Elect_put.B0 e role vote leader w R) : elect_Elect_put.Call e role vote leader w R := by
  have hc := calls_of_block (args := #[.pointer e, .int .i64 role, .int .i64 vote, .int .i64 leader]) Tryz.func127 (body := (Tryz.f127.body.getD .skip)) (by kernel_rfl) (by kernel_rfl) (args_slot _) (elect_Elect_put.B0_sound e role vote leader w h)
  exact hc.mono fun e w' he => by
    obtain ⟨v, rfl, hv⟩ := he
    exact elect_Elect_put.RV_elim hv
def elect_Elect_wind.B0 (e : Option Addr) (w : World)   (R : World → Prop) : Prop :=
  Pn e fun a =>
  LdI .i64 a w fun x7 =>
  api_Timeout.Call x7 w fun r8 w1 =>
  Pn e fun a_1 =>
  Sts [.int .i64 (0 : Int)] (a_1.add 4) 0 w1 fun w2 =>
  Pn e fun a_2 =>
  Sts [.int .i64 r8] (a_2.add 5) 0 w2 fun w3 =>
  R  w3
theorem elect_Elect_wind.B0_eq (e : Option Addr) (w : World)   (R : World → Prop)  :
    (
  Pn e fun a =>
  LdI .i64 a w fun x7 =>
  api_Timeout.Call x7 w fun r8 w1 =>
  Pn e fun a_1 =>
  Sts [.int .i64 (0 : Int)] (a_1.add 4) 0 w1 fun w2 =>
  Pn e fun a_2 =>
  Sts [.int .i64 r8] (a_2.add 5) 0 w2 fun w3 =>
  R  w3) = kstep Tryz.prog 13 Tryz.f128.results.toList (Tryz.f128.body.getD .skip) (elect_Elect_wind.RV R) (kvc Tryz.prog 13 Tryz.f128.results.toList (Tryz.f128.body.getD .skip) (elect_Elect_wind.RV R) [] 2000) [(0, [])] [(0, .pointer e)] w := by kernel_rfl
theorem elect_Elect_wind.B0_sound {R : World → Prop}  (e : Option Addr) (w : World) (h : elect_Elect_wind.B0 e w   R) :
    KW Tryz.prog 128 13 (elect_Elect_wind.RV R) ([(0, [])].map (toItem (Tryz.f128.body.getD .skip))) [(0, .pointer e)] w := by
  exact block_spec Tryz.func128 Tryz.mixed stops_nil (Eq.mp (elect_Elect_wind.B0_eq e w   R ) h)
theorem elect_Elect_wind.sound (e : Option Addr) (w : World) (R : World → Prop) (h : elect_Elect_wind.B0 e w R) : elect_Elect_wind.Call e w R := by
  have hc := calls_of_block (args := #[.pointer e]) Tryz.func128 (body := (Tryz.f128.body.getD .skip)) (by kernel_rfl) (by kernel_rfl) (args_slot _) (elect_Elect_wind.B0_sound e w h)
  exact hc.mono fun e w' he => by
    obtain ⟨v, rfl, hv⟩ := he
    exact elect_Elect_wind.RV_elim hv
def rlog_Log_Term.B0 (l : Option Addr) (w : World)   (R : Int → World → Prop) : Prop :=
  Pn l fun a =>
  LdI .i64 (a.add 1) w fun x6 =>
  R x6 w
theorem rlog_Log_Term.B0_eq (l : Option Addr) (w : World)   (R : Int → World → Prop)  :
    (
  Pn l fun a =>
  LdI .i64 (a.add 1) w fun x6 =>
  R x6 w) = kstep Tryz.prog 7 Tryz.f129.results.toList (Tryz.f129.body.getD .skip) (rlog_Log_Term.RV R) (kvc Tryz.prog 7 Tryz.f129.results.toList (Tryz.f129.body.getD .skip) (rlog_Log_Term.RV R) [] 2000) [(0, [])] [(0, .pointer l)] w := by kernel_rfl
theorem rlog_Log_Term.B0_sound {R : Int → World → Prop}  (l : Option Addr) (w : World) (h : rlog_Log_Term.B0 l w   R) :
    KW Tryz.prog 129 7 (rlog_Log_Term.RV R) ([(0, [])].map (toItem (Tryz.f129.body.getD .skip))) [(0, .pointer l)] w := by
  exact block_spec Tryz.func129 Tryz.mixed stops_nil (Eq.mp (rlog_Log_Term.B0_eq l w   R ) h)
theorem rlog_Log_Term.sound (l : Option Addr) (w : World) (R : Int → World → Prop) (h : rlog_Log_Term.B0 l w R) : rlog_Log_Term.Call l w R := by
  have hc := calls_of_block (args := #[.pointer l]) Tryz.func129 (body := (Tryz.f129.body.getD .skip)) (by kernel_rfl) (by kernel_rfl) (args_slot _) (rlog_Log_Term.B0_sound l w h)
  exact hc.mono fun e w' he => by
    obtain ⟨v, rfl, hv⟩ := he
    exact rlog_Log_Term.RV_elim hv
def rlog_Log_Vote.B0 (l : Option Addr) (w : World)   (R : Int → World → Prop) : Prop :=
  Pn l fun a =>
  LdI .i64 (a.add 2) w fun x6 =>
  R x6 w
theorem rlog_Log_Vote.B0_eq (l : Option Addr) (w : World)   (R : Int → World → Prop)  :
    (
  Pn l fun a =>
  LdI .i64 (a.add 2) w fun x6 =>
  R x6 w) = kstep Tryz.prog 7 Tryz.f130.results.toList (Tryz.f130.body.getD .skip) (rlog_Log_Vote.RV R) (kvc Tryz.prog 7 Tryz.f130.results.toList (Tryz.f130.body.getD .skip) (rlog_Log_Vote.RV R) [] 2000) [(0, [])] [(0, .pointer l)] w := by kernel_rfl
theorem rlog_Log_Vote.B0_sound {R : Int → World → Prop}  (l : Option Addr) (w : World) (h : rlog_Log_Vote.B0 l w   R) :
    KW Tryz.prog 130 7 (rlog_Log_Vote.RV R) ([(0, [])].map (toItem (Tryz.f130.body.getD .skip))) [(0, .pointer l)] w := by
  exact block_spec Tryz.func130 Tryz.mixed stops_nil (Eq.mp (rlog_Log_Vote.B0_eq l w   R ) h)
theorem rlog_Log_Vote.sound (l : Option Addr) (w : World) (R : Int → World → Prop) (h : rlog_Log_Vote.B0 l w R) : rlog_Log_Vote.Call l w R := by
  have hc := calls_of_block (args := #[.pointer l]) Tryz.func130 (body := (Tryz.f130.body.getD .skip)) (by kernel_rfl) (by kernel_rfl) (args_slot _) (rlog_Log_Vote.B0_sound l w h)
  exact hc.mono fun e w' he => by
    obtain ⟨v, rfl, hv⟩ := he
    exact rlog_Log_Vote.RV_elim hv
def elect_Elect_Restore.B1 (e : Option Addr) (term vote : Int) (t20 : Bool) (w : World)   (R : Int → World → Prop) : Prop :=
  Bm t20 (
    R (1 : Int) w) (
    Pn e fun a =>
    Sts [.int .i64 term] (a.add 1) 0 w fun w1 =>
    Pn e fun a_1 =>
    Sts [.int .i64 (0 : Int)] (a_1.add 3) 0 w1 fun w2 =>
    elect_Elect_put.Call e (0 : Int) vote (-1 : Int) w2 fun w3 =>
    elect_Elect_wind.Call e w3 fun w4 =>
    R (0 : Int) w4)
theorem elect_Elect_Restore.B1_eq (e : Option Addr) (term vote : Int) (t20 : Bool) (w : World)   (R : Int → World → Prop)  :
    (
  Bm t20 (
    R (1 : Int) w) (
    Pn e fun a =>
    Sts [.int .i64 term] (a.add 1) 0 w fun w1 =>
    Pn e fun a_1 =>
    Sts [.int .i64 (0 : Int)] (a_1.add 3) 0 w1 fun w2 =>
    elect_Elect_put.Call e (0 : Int) vote (-1 : Int) w2 fun w3 =>
    elect_Elect_wind.Call e w3 fun w4 =>
    R (0 : Int) w4)) = kstep Tryz.prog 33 Tryz.f131.results.toList (Tryz.f131.body.getD .skip) (elect_Elect_Restore.RV R) (kvc Tryz.prog 33 Tryz.f131.results.toList (Tryz.f131.body.getD .skip) (elect_Elect_Restore.RV R) [] 2000) [(0, [1, 0, 1]), (0, [1, 1])] [(0, .pointer e), (1, .int .i64 term), (2, .int .i64 vote), (20, .bool t20)] w := by kernel_rfl
theorem elect_Elect_Restore.B1_sound {R : Int → World → Prop}  (e : Option Addr) (term vote : Int) (t20 : Bool) (w : World) (h : elect_Elect_Restore.B1 e term vote t20 w   R) :
    KW Tryz.prog 131 33 (elect_Elect_Restore.RV R) ([(0, [1, 0, 1]), (0, [1, 1])].map (toItem (Tryz.f131.body.getD .skip))) [(0, .pointer e), (1, .int .i64 term), (2, .int .i64 vote), (20, .bool t20)] w := by
  exact block_spec Tryz.func131 Tryz.mixed stops_nil (Eq.mp (elect_Elect_Restore.B1_eq e term vote t20 w   R ) h)
def elect_Elect_Restore.B0 (e : Option Addr) (term vote : Int) (w : World)   (R : Int → World → Prop) : Prop :=
  Bm (decide (term < (0 : Int))) (
    elect_Elect_Restore.B1 e term vote true w  R) (
    Bm (decide (term > (72057594037927936 : Int))) (
      elect_Elect_Restore.B1 e term vote true w  R) (
      Bm (decide (vote < (-1 : Int))) (
        elect_Elect_Restore.B1 e term vote true w  R) (
        elect_Elect_Restore.B1 e term vote (decide (vote ≥ (3 : Int))) w  R)))
theorem elect_Elect_Restore.B0_eq (e : Option Addr) (term vote : Int) (w : World)   (R : Int → World → Prop) (sB1 : Option Addr → Int → Int → Bool → World → Prop) :
    (
  Bm (decide (term < (0 : Int))) (
    sB1 e term vote true w) (
    Bm (decide (term > (72057594037927936 : Int))) (
      sB1 e term vote true w) (
      Bm (decide (vote < (-1 : Int))) (
        sB1 e term vote true w) (
        sB1 e term vote (decide (vote ≥ (3 : Int))) w)))) = kstep Tryz.prog 33 Tryz.f131.results.toList (Tryz.f131.body.getD .skip) (elect_Elect_Restore.RV R) (kvc Tryz.prog 33 Tryz.f131.results.toList (Tryz.f131.body.getD .skip) (elect_Elect_Restore.RV R) [([(0, [1, 0, 1]), (0, [1, 1])], fun σ w => dP (slotOf σ 0) fun e_ => dI .i64 (slotOf σ 1) fun term_ => dI .i64 (slotOf σ 2) fun vote_ => dB (slotOf σ 20) fun t20_ => sB1 e_ term_ vote_ t20_ w)] 2000) [(0, [])] [(0, .pointer e), (1, .int .i64 term), (2, .int .i64 vote)] w := by kernel_rfl
theorem elect_Elect_Restore.B0_sound {R : Int → World → Prop}  (e : Option Addr) (term vote : Int) (w : World) (h : elect_Elect_Restore.B0 e term vote w   R) :
    KW Tryz.prog 131 33 (elect_Elect_Restore.RV R) ([(0, [])].map (toItem (Tryz.f131.body.getD .skip))) [(0, .pointer e), (1, .int .i64 term), (2, .int .i64 vote)] w := by
  exact block_spec Tryz.func131 Tryz.mixed (stops_cons (fun σ w h => by
      obtain ⟨e_, e0, h⟩ := dP_elim h
      obtain ⟨term_, e1, h⟩ := dI_elim h
      obtain ⟨vote_, e2, h⟩ := dI_elim h
      obtain ⟨t20_, e3, h⟩ := dB_elim h
      exact (elect_Elect_Restore.B1_sound  e_ term_ vote_ t20_ w h).weaken (Sub.cons (Sub.cons (Sub.cons (Sub.cons (Sub.nil _) e3) e2) e1) e0)) stops_nil) (Eq.mp (elect_Elect_Restore.B0_eq e term vote w   R (fun e_ term_ vote_ t20_ w => elect_Elect_Restore.B1 e_ term_ vote_ t20_ w  R)) h)
theorem elect_Elect_Restore.sound (e : Option Addr) (term vote : Int) (w : World) (R : Int → World → Prop) (h : elect_Elect_Restore.B0 e term vote w R) : elect_Elect_Restore.Call e term vote w R := by
  have hc := calls_of_block (args := #[.pointer e, .int .i64 term, .int .i64 vote]) Tryz.func131 (body := (Tryz.f131.body.getD .skip)) (by kernel_rfl) (by kernel_rfl) (args_slot _) (elect_Elect_Restore.B0_sound e term vote w h)
  exact hc.mono fun e w' he => by
    obtain ⟨v, rfl, hv⟩ := he
    exact elect_Elect_Restore.RV_elim hv
def sync_Sync_refresh.B0 (s : Option Addr) (w : World)   (R : World → Prop) : Prop :=
  Pn s fun a =>
  LdP a w fun x8 =>
  rlog_Log_Last.Call x8 w fun r9 w1 =>
  Pn s fun a_1 =>
  Sts [.int .i64 r9] (a_1.add 9) 0 w1 fun w2 =>
  Pn s fun a_2 =>
  LdP a_2 w2.drew fun x16 =>
  Pn s fun a_3 =>
  LdI .i64 (a_3.add 9) w2.drew fun x20 =>
  rlog_Log_TermAt.Call x16 x20 w2.drew fun r21_0 r21_1 w3 =>
  Pn s fun a_4 =>
  Sts [.int .i64 r21_0] (a_4.add 10) 0 w3 fun w4 =>
  R  w4
theorem sync_Sync_refresh.B0_eq (s : Option Addr) (w : World)   (R : World → Prop)  :
    (
  Pn s fun a =>
  LdP a w fun x8 =>
  rlog_Log_Last.Call x8 w fun r9 w1 =>
  Pn s fun a_1 =>
  Sts [.int .i64 r9] (a_1.add 9) 0 w1 fun w2 =>
  Pn s fun a_2 =>
  LdP a_2 w2.drew fun x16 =>
  Pn s fun a_3 =>
  LdI .i64 (a_3.add 9) w2.drew fun x20 =>
  rlog_Log_TermAt.Call x16 x20 w2.drew fun r21_0 r21_1 w3 =>
  Pn s fun a_4 =>
  Sts [.int .i64 r21_0] (a_4.add 10) 0 w3 fun w4 =>
  R  w4) = kstep Tryz.prog 28 Tryz.f132.results.toList (Tryz.f132.body.getD .skip) (sync_Sync_refresh.RV R) (kvc Tryz.prog 28 Tryz.f132.results.toList (Tryz.f132.body.getD .skip) (sync_Sync_refresh.RV R) [] 2000) [(0, [])] [(0, .pointer s)] w := by kernel_rfl
theorem sync_Sync_refresh.B0_sound {R : World → Prop}  (s : Option Addr) (w : World) (h : sync_Sync_refresh.B0 s w   R) :
    KW Tryz.prog 132 28 (sync_Sync_refresh.RV R) ([(0, [])].map (toItem (Tryz.f132.body.getD .skip))) [(0, .pointer s)] w := by
  exact block_spec Tryz.func132 Tryz.mixed stops_nil (Eq.mp (sync_Sync_refresh.B0_eq s w   R ) h)
theorem sync_Sync_refresh.sound (s : Option Addr) (w : World) (R : World → Prop) (h : sync_Sync_refresh.B0 s w R) : sync_Sync_refresh.Call s w R := by
  have hc := calls_of_block (args := #[.pointer s]) Tryz.func132 (body := (Tryz.f132.body.getD .skip)) (by kernel_rfl) (by kernel_rfl) (args_slot _) (sync_Sync_refresh.B0_sound s w h)
  exact hc.mono fun e w' he => by
    obtain ⟨v, rfl, hv⟩ := he
    exact sync_Sync_refresh.RV_elim hv
def rlogm_state_clone.B0 (s : Option Addr) (w : World)   (R : Option Addr → World → Prop) : Prop :=
  Pn s fun a =>
  LdI .i64 a w.drew fun x7 =>
  Pn s fun a_1 =>
  LdI .i64 (a_1.add 1) w.drew fun x11 =>
  Pn s fun a_2 =>
  LdI .i64 (a_2.add 2) w.drew fun x15 =>
  Pn s fun a_3 =>
  LdI .i64 (a_3.add 3) w.drew fun x19 =>
  Pn s fun a_4 =>
  LdS (a_4.add 4) w.drew fun x23 =>
  Pn s fun a_5 =>
  LdI .i64 (a_5.add 5) w.drew fun x27 =>
  New (.cells #[.int .i64 x7, .int .i64 x11, .int .i64 x15, .int .i64 x19, .string x23, .int .i64 x27, .int .i64 (0 : Int), .string (ByteArray.mk #[]), .int .i64 (0 : Int), .string (ByteArray.mk #[]), .int .i64 (0 : Int), .string (ByteArray.mk #[]), .int .i64 (0 : Int), .string (ByteArray.mk #[]), .int .i64 (0 : Int), .string (ByteArray.mk #[]), .int .i64 (0 : Int), .string (ByteArray.mk #[])] 208) w.drew fun b29 w1 =>
  Pn s fun a_6 =>
  LdI .i64 (a_6.add 6) w1 fun x34_0 =>
  LdS ((a_6.add 6).add 1) w1 fun x34_1 =>
  LdI .i64 ((a_6.add 6).add 2) w1 fun x34_2 =>
  LdS ((a_6.add 6).add 3) w1 fun x34_3 =>
  LdI .i64 ((a_6.add 6).add 4) w1 fun x34_4 =>
  LdS ((a_6.add 6).add 5) w1 fun x34_5 =>
  LdI .i64 ((a_6.add 6).add 6) w1 fun x34_6 =>
  LdS ((a_6.add 6).add 7) w1 fun x34_7 =>
  LdI .i64 ((a_6.add 6).add 8) w1 fun x34_8 =>
  LdS ((a_6.add 6).add 9) w1 fun x34_9 =>
  LdI .i64 ((a_6.add 6).add 10) w1 fun x34_10 =>
  LdS ((a_6.add 6).add 11) w1 fun x34_11 =>
  Sts [.int .i64 x34_0, .string x34_1, .int .i64 x34_2, .string x34_3, .int .i64 x34_4, .string x34_5, .int .i64 x34_6, .string x34_7, .int .i64 x34_8, .string x34_9, .int .i64 x34_10, .string x34_11] ⟨b29, 6, none⟩ 0 w1 fun w2 =>
  R (some ⟨b29, 0, none⟩) w2
theorem rlogm_state_clone.B0_eq (s : Option Addr) (w : World)   (R : Option Addr → World → Prop)  :
    (
  Pn s fun a =>
  LdI .i64 a w.drew fun x7 =>
  Pn s fun a_1 =>
  LdI .i64 (a_1.add 1) w.drew fun x11 =>
  Pn s fun a_2 =>
  LdI .i64 (a_2.add 2) w.drew fun x15 =>
  Pn s fun a_3 =>
  LdI .i64 (a_3.add 3) w.drew fun x19 =>
  Pn s fun a_4 =>
  LdS (a_4.add 4) w.drew fun x23 =>
  Pn s fun a_5 =>
  LdI .i64 (a_5.add 5) w.drew fun x27 =>
  New (.cells #[.int .i64 x7, .int .i64 x11, .int .i64 x15, .int .i64 x19, .string x23, .int .i64 x27, .int .i64 (0 : Int), .string (ByteArray.mk #[]), .int .i64 (0 : Int), .string (ByteArray.mk #[]), .int .i64 (0 : Int), .string (ByteArray.mk #[]), .int .i64 (0 : Int), .string (ByteArray.mk #[]), .int .i64 (0 : Int), .string (ByteArray.mk #[]), .int .i64 (0 : Int), .string (ByteArray.mk #[])] 208) w.drew fun b29 w1 =>
  Pn s fun a_6 =>
  LdI .i64 (a_6.add 6) w1 fun x34_0 =>
  LdS ((a_6.add 6).add 1) w1 fun x34_1 =>
  LdI .i64 ((a_6.add 6).add 2) w1 fun x34_2 =>
  LdS ((a_6.add 6).add 3) w1 fun x34_3 =>
  LdI .i64 ((a_6.add 6).add 4) w1 fun x34_4 =>
  LdS ((a_6.add 6).add 5) w1 fun x34_5 =>
  LdI .i64 ((a_6.add 6).add 6) w1 fun x34_6 =>
  LdS ((a_6.add 6).add 7) w1 fun x34_7 =>
  LdI .i64 ((a_6.add 6).add 8) w1 fun x34_8 =>
  LdS ((a_6.add 6).add 9) w1 fun x34_9 =>
  LdI .i64 ((a_6.add 6).add 10) w1 fun x34_10 =>
  LdS ((a_6.add 6).add 11) w1 fun x34_11 =>
  Sts [.int .i64 x34_0, .string x34_1, .int .i64 x34_2, .string x34_3, .int .i64 x34_4, .string x34_5, .int .i64 x34_6, .string x34_7, .int .i64 x34_8, .string x34_9, .int .i64 x34_10, .string x34_11] ⟨b29, 6, none⟩ 0 w1 fun w2 =>
  R (some ⟨b29, 0, none⟩) w2) = kstep Tryz.prog 38 Tryz.f133.results.toList (Tryz.f133.body.getD .skip) (rlogm_state_clone.RV R) (kvc Tryz.prog 38 Tryz.f133.results.toList (Tryz.f133.body.getD .skip) (rlogm_state_clone.RV R) [] 2000) [(0, [])] [(0, .pointer s)] w := by kernel_rfl
theorem rlogm_state_clone.B0_sound {R : Option Addr → World → Prop}  (s : Option Addr) (w : World) (h : rlogm_state_clone.B0 s w   R) :
    KW Tryz.prog 133 38 (rlogm_state_clone.RV R) ([(0, [])].map (toItem (Tryz.f133.body.getD .skip))) [(0, .pointer s)] w := by
  exact block_spec Tryz.func133 Tryz.mixed stops_nil (Eq.mp (rlogm_state_clone.B0_eq s w   R ) h)
theorem rlogm_state_clone.sound (s : Option Addr) (w : World) (R : Option Addr → World → Prop) (h : rlogm_state_clone.B0 s w R) : rlogm_state_clone.Call s w R := by
  have hc := calls_of_block (args := #[.pointer s]) Tryz.func133 (body := (Tryz.f133.body.getD .skip)) (by kernel_rfl) (by kernel_rfl) (args_slot _) (rlogm_state_clone.B0_sound s w h)
  exact hc.mono fun e w' he => by
    obtain ⟨v, rfl, hv⟩ := he
    exact rlogm_state_clone.RV_elim hv
def rlogm_Log_Term.B0 (l : Option Addr) (w : World)   (R : Int → World → Prop) : Prop :=
  Pn l fun a =>
  LdP a w fun x6 =>
  Pn x6 fun a_1 =>
  LdI .i64 a_1 w fun x9 =>
  R x9 w
theorem rlogm_Log_Term.B0_eq (l : Option Addr) (w : World)   (R : Int → World → Prop)  :
    (
  Pn l fun a =>
  LdP a w fun x6 =>
  Pn x6 fun a_1 =>
  LdI .i64 a_1 w fun x9 =>
  R x9 w) = kstep Tryz.prog 10 Tryz.f134.results.toList (Tryz.f134.body.getD .skip) (rlogm_Log_Term.RV R) (kvc Tryz.prog 10 Tryz.f134.results.toList (Tryz.f134.body.getD .skip) (rlogm_Log_Term.RV R) [] 2000) [(0, [])] [(0, .pointer l)] w := by kernel_rfl
theorem rlogm_Log_Term.B0_sound {R : Int → World → Prop}  (l : Option Addr) (w : World) (h : rlogm_Log_Term.B0 l w   R) :
    KW Tryz.prog 134 10 (rlogm_Log_Term.RV R) ([(0, [])].map (toItem (Tryz.f134.body.getD .skip))) [(0, .pointer l)] w := by
  exact block_spec Tryz.func134 Tryz.mixed stops_nil (Eq.mp (rlogm_Log_Term.B0_eq l w   R ) h)
theorem rlogm_Log_Term.sound (l : Option Addr) (w : World) (R : Int → World → Prop) (h : rlogm_Log_Term.B0 l w R) : rlogm_Log_Term.Call l w R := by
  have hc := calls_of_block (args := #[.pointer l]) Tryz.func134 (body := (Tryz.f134.body.getD .skip)) (by kernel_rfl) (by kernel_rfl) (args_slot _) (rlogm_Log_Term.B0_sound l w h)
  exact hc.mono fun e w' he => by
    obtain ⟨v, rfl, hv⟩ := he
    exact rlogm_Log_Term.RV_elim hv
def rlogm_Log_Vote.B0 (l : Option Addr) (w : World)   (R : Int → World → Prop) : Prop :=
  Pn l fun a =>
  LdP a w fun x6 =>
  Pn x6 fun a_1 =>
  LdI .i64 (a_1.add 1) w fun x9 =>
  R x9 w
theorem rlogm_Log_Vote.B0_eq (l : Option Addr) (w : World)   (R : Int → World → Prop)  :
    (
  Pn l fun a =>
  LdP a w fun x6 =>
  Pn x6 fun a_1 =>
  LdI .i64 (a_1.add 1) w fun x9 =>
  R x9 w) = kstep Tryz.prog 10 Tryz.f135.results.toList (Tryz.f135.body.getD .skip) (rlogm_Log_Vote.RV R) (kvc Tryz.prog 10 Tryz.f135.results.toList (Tryz.f135.body.getD .skip) (rlogm_Log_Vote.RV R) [] 2000) [(0, [])] [(0, .pointer l)] w := by kernel_rfl
theorem rlogm_Log_Vote.B0_sound {R : Int → World → Prop}  (l : Option Addr) (w : World) (h : rlogm_Log_Vote.B0 l w   R) :
    KW Tryz.prog 135 10 (rlogm_Log_Vote.RV R) ([(0, [])].map (toItem (Tryz.f135.body.getD .skip))) [(0, .pointer l)] w := by
  exact block_spec Tryz.func135 Tryz.mixed stops_nil (Eq.mp (rlogm_Log_Vote.B0_eq l w   R ) h)
theorem rlogm_Log_Vote.sound (l : Option Addr) (w : World) (R : Int → World → Prop) (h : rlogm_Log_Vote.B0 l w R) : rlogm_Log_Vote.Call l w R := by
  have hc := calls_of_block (args := #[.pointer l]) Tryz.func135 (body := (Tryz.f135.body.getD .skip)) (by kernel_rfl) (by kernel_rfl) (args_slot _) (rlogm_Log_Vote.B0_sound l w h)
  exact hc.mono fun e w' he => by
    obtain ⟨v, rfl, hv⟩ := he
    exact rlogm_Log_Vote.RV_elim hv
def electm_Elect_Restore.B1 (e : Option Addr) (term vote : Int) (t20 : Bool) (w : World)   (R : Int → World → Prop) : Prop :=
  Bm t20 (
    R (1 : Int) w) (
    Pn e fun a =>
    Sts [.int .i64 term] (a.add 1) 0 w fun w1 =>
    Pn e fun a_1 =>
    Sts [.int .i64 vote] (a_1.add 2) 0 w1 fun w2 =>
    Pn e fun a_2 =>
    Sts [.int .i64 (0 : Int)] (a_2.add 3) 0 w2 fun w3 =>
    Pn e fun a_3 =>
    Sts [.int .i64 (-1 : Int)] (a_3.add 4) 0 w3 fun w4 =>
    Pn e fun a_4 =>
    Sts [.int .i64 (0 : Int)] (a_4.add 5) 0 w4 fun w5 =>
    Pn e fun a_5 =>
    Sts [.bool false, .bool false, .bool false] (a_5.add 6) 0 w5 fun w6 =>
    R (0 : Int) w6)
theorem electm_Elect_Restore.B1_eq (e : Option Addr) (term vote : Int) (t20 : Bool) (w : World)   (R : Int → World → Prop)  :
    (
  Bm t20 (
    R (1 : Int) w) (
    Pn e fun a =>
    Sts [.int .i64 term] (a.add 1) 0 w fun w1 =>
    Pn e fun a_1 =>
    Sts [.int .i64 vote] (a_1.add 2) 0 w1 fun w2 =>
    Pn e fun a_2 =>
    Sts [.int .i64 (0 : Int)] (a_2.add 3) 0 w2 fun w3 =>
    Pn e fun a_3 =>
    Sts [.int .i64 (-1 : Int)] (a_3.add 4) 0 w3 fun w4 =>
    Pn e fun a_4 =>
    Sts [.int .i64 (0 : Int)] (a_4.add 5) 0 w4 fun w5 =>
    Pn e fun a_5 =>
    Sts [.bool false, .bool false, .bool false] (a_5.add 6) 0 w5 fun w6 =>
    R (0 : Int) w6)) = kstep Tryz.prog 42 Tryz.f136.results.toList (Tryz.f136.body.getD .skip) (electm_Elect_Restore.RV R) (kvc Tryz.prog 42 Tryz.f136.results.toList (Tryz.f136.body.getD .skip) (electm_Elect_Restore.RV R) [] 2000) [(0, [1, 0, 1]), (0, [1, 1])] [(0, .pointer e), (1, .int .i64 term), (2, .int .i64 vote), (20, .bool t20)] w := by kernel_rfl
theorem electm_Elect_Restore.B1_sound {R : Int → World → Prop}  (e : Option Addr) (term vote : Int) (t20 : Bool) (w : World) (h : electm_Elect_Restore.B1 e term vote t20 w   R) :
    KW Tryz.prog 136 42 (electm_Elect_Restore.RV R) ([(0, [1, 0, 1]), (0, [1, 1])].map (toItem (Tryz.f136.body.getD .skip))) [(0, .pointer e), (1, .int .i64 term), (2, .int .i64 vote), (20, .bool t20)] w := by
  exact block_spec Tryz.func136 Tryz.mixed stops_nil (Eq.mp (electm_Elect_Restore.B1_eq e term vote t20 w   R ) h)
def electm_Elect_Restore.B0 (e : Option Addr) (term vote : Int) (w : World)   (R : Int → World → Prop) : Prop :=
  Bm (decide (term < (0 : Int))) (
    electm_Elect_Restore.B1 e term vote true w  R) (
    Bm (decide (term > (72057594037927936 : Int))) (
      electm_Elect_Restore.B1 e term vote true w  R) (
      Bm (decide (vote < (-1 : Int))) (
        electm_Elect_Restore.B1 e term vote true w  R) (
        electm_Elect_Restore.B1 e term vote (decide (vote ≥ (3 : Int))) w  R)))
theorem electm_Elect_Restore.B0_eq (e : Option Addr) (term vote : Int) (w : World)   (R : Int → World → Prop) (sB1 : Option Addr → Int → Int → Bool → World → Prop) :
    (
  Bm (decide (term < (0 : Int))) (
    sB1 e term vote true w) (
    Bm (decide (term > (72057594037927936 : Int))) (
      sB1 e term vote true w) (
      Bm (decide (vote < (-1 : Int))) (
        sB1 e term vote true w) (
        sB1 e term vote (decide (vote ≥ (3 : Int))) w)))) = kstep Tryz.prog 42 Tryz.f136.results.toList (Tryz.f136.body.getD .skip) (electm_Elect_Restore.RV R) (kvc Tryz.prog 42 Tryz.f136.results.toList (Tryz.f136.body.getD .skip) (electm_Elect_Restore.RV R) [([(0, [1, 0, 1]), (0, [1, 1])], fun σ w => dP (slotOf σ 0) fun e_ => dI .i64 (slotOf σ 1) fun term_ => dI .i64 (slotOf σ 2) fun vote_ => dB (slotOf σ 20) fun t20_ => sB1 e_ term_ vote_ t20_ w)] 2000) [(0, [])] [(0, .pointer e), (1, .int .i64 term), (2, .int .i64 vote)] w := by kernel_rfl
theorem electm_Elect_Restore.B0_sound {R : Int → World → Prop}  (e : Option Addr) (term vote : Int) (w : World) (h : electm_Elect_Restore.B0 e term vote w   R) :
    KW Tryz.prog 136 42 (electm_Elect_Restore.RV R) ([(0, [])].map (toItem (Tryz.f136.body.getD .skip))) [(0, .pointer e), (1, .int .i64 term), (2, .int .i64 vote)] w := by
  exact block_spec Tryz.func136 Tryz.mixed (stops_cons (fun σ w h => by
      obtain ⟨e_, e0, h⟩ := dP_elim h
      obtain ⟨term_, e1, h⟩ := dI_elim h
      obtain ⟨vote_, e2, h⟩ := dI_elim h
      obtain ⟨t20_, e3, h⟩ := dB_elim h
      exact (electm_Elect_Restore.B1_sound  e_ term_ vote_ t20_ w h).weaken (Sub.cons (Sub.cons (Sub.cons (Sub.cons (Sub.nil _) e3) e2) e1) e0)) stops_nil) (Eq.mp (electm_Elect_Restore.B0_eq e term vote w   R (fun e_ term_ vote_ t20_ w => electm_Elect_Restore.B1 e_ term_ vote_ t20_ w  R)) h)
theorem electm_Elect_Restore.sound (e : Option Addr) (term vote : Int) (w : World) (R : Int → World → Prop) (h : electm_Elect_Restore.B0 e term vote w R) : electm_Elect_Restore.Call e term vote w R := by
  have hc := calls_of_block (args := #[.pointer e, .int .i64 term, .int .i64 vote]) Tryz.func136 (body := (Tryz.f136.body.getD .skip)) (by kernel_rfl) (by kernel_rfl) (args_slot _) (electm_Elect_Restore.B0_sound e term vote w h)
  exact hc.mono fun e w' he => by
    obtain ⟨v, rfl, hv⟩ := he
    exact electm_Elect_Restore.RV_elim hv
def rlogm_Log_Base.B0 (l : Option Addr) (w : World)   (R : Int → World → Prop) : Prop :=
  Pn l fun a =>
  LdP a w fun x6 =>
  Pn x6 fun a_1 =>
  LdI .i64 (a_1.add 2) w fun x9 =>
  R x9 w
theorem rlogm_Log_Base.B0_eq (l : Option Addr) (w : World)   (R : Int → World → Prop)  :
    (
  Pn l fun a =>
  LdP a w fun x6 =>
  Pn x6 fun a_1 =>
  LdI .i64 (a_1.add 2) w fun x9 =>
  R x9 w) = kstep Tryz.prog 10 Tryz.f137.results.toList (Tryz.f137.body.getD .skip) (rlogm_Log_Base.RV R) (kvc Tryz.prog 10 Tryz.f137.results.toList (Tryz.f137.body.getD .skip) (rlogm_Log_Base.RV R) [] 2000) [(0, [])] [(0, .pointer l)] w := by kernel_rfl
theorem rlogm_Log_Base.B0_sound {R : Int → World → Prop}  (l : Option Addr) (w : World) (h : rlogm_Log_Base.B0 l w   R) :
    KW Tryz.prog 137 10 (rlogm_Log_Base.RV R) ([(0, [])].map (toItem (Tryz.f137.body.getD .skip))) [(0, .pointer l)] w := by
  exact block_spec Tryz.func137 Tryz.mixed stops_nil (Eq.mp (rlogm_Log_Base.B0_eq l w   R ) h)
theorem rlogm_Log_Base.sound (l : Option Addr) (w : World) (R : Int → World → Prop) (h : rlogm_Log_Base.B0 l w R) : rlogm_Log_Base.Call l w R := by
  have hc := calls_of_block (args := #[.pointer l]) Tryz.func137 (body := (Tryz.f137.body.getD .skip)) (by kernel_rfl) (by kernel_rfl) (args_slot _) (rlogm_Log_Base.B0_sound l w h)
  exact hc.mono fun e w' he => by
    obtain ⟨v, rfl, hv⟩ := he
    exact rlogm_Log_Base.RV_elim hv
def kvm_KV_Restore.B2 (k : Option Addr) (s : ByteArray) (t : Nat) (p i : Int) (t63 : Bool) (w : World) (N1 : Option Addr → ByteArray → Nat → Int → Int → World → Prop)  (R : Int → World → Prop) : Prop :=
  Bm t63 (
    R (15 : Int) w) (
    N1 k s t p (IntKind.i64.wrap (i + (1 : Int))) w)
theorem kvm_KV_Restore.B2_eq (k : Option Addr) (s : ByteArray) (t : Nat) (p i : Int) (t63 : Bool) (w : World) (N1 : Option Addr → ByteArray → Nat → Int → Int → World → Prop)  (R : Int → World → Prop)  :
    (
  Bm t63 (
    R (15 : Int) w) (
    N1 k s t p (IntKind.i64.wrap (i + (1 : Int))) w)) = kstep Tryz.prog 145 Tryz.f138.results.toList (Tryz.f138.body.getD .skip) (kvm_KV_Restore.RV R) (kvc Tryz.prog 145 Tryz.f138.results.toList (Tryz.f138.body.getD .skip) (kvm_KV_Restore.RV R) [([(0, [1, 1, 1, 1, 1, 0, 1, 0, 0]), (2, [1, 1, 1, 1, 1, 0, 1, 0, 0]), (1, [0]), (0, [1, 1, 1, 1, 1, 1])], fun σ w => dP (slotOf σ 0) fun k_ => dS (slotOf σ 1) fun s_ => dK (slotOf σ 5) fun t_ => dI .i64 (slotOf σ 6) fun p_ => dI .i64 (slotOf σ 7) fun i_ => N1 k_ s_ t_ p_ i_ w)] 2000) [(0, [1, 1, 1, 1, 1, 0, 1, 0, 0, 1, 0, 0, 1, 1, 1]), (1, [1]), (0, [1, 1, 1, 1, 1, 0, 1, 0, 0, 1, 1]), (2, [1, 1, 1, 1, 1, 0, 1, 0, 0]), (1, [0]), (0, [1, 1, 1, 1, 1, 1])] [(0, .pointer k), (1, .string s), (5, .pointer (some ⟨t, 0, none⟩)), (6, .int .i64 p), (7, .int .i64 i), (63, .bool t63)] w := by kernel_rfl
theorem kvm_KV_Restore.B2_sound {R : Int → World → Prop} {N1 : Option Addr → ByteArray → Nat → Int → Int → World → Prop} (hN1 : ∀ k s t p i w, N1 k s t p i w → KW Tryz.prog 138 145 (kvm_KV_Restore.RV R) ([(0, [1, 1, 1, 1, 1, 0, 1, 0, 0]), (2, [1, 1, 1, 1, 1, 0, 1, 0, 0]), (1, [0]), (0, [1, 1, 1, 1, 1, 1])].map (toItem (Tryz.f138.body.getD .skip))) [(0, .pointer k), (1, .string s), (5, .pointer (some ⟨t, 0, none⟩)), (6, .int .i64 p), (7, .int .i64 i)] w) (k : Option Addr) (s : ByteArray) (t : Nat) (p i : Int) (t63 : Bool) (w : World) (h : kvm_KV_Restore.B2 k s t p i t63 w N1  R) :
    KW Tryz.prog 138 145 (kvm_KV_Restore.RV R) ([(0, [1, 1, 1, 1, 1, 0, 1, 0, 0, 1, 0, 0, 1, 1, 1]), (1, [1]), (0, [1, 1, 1, 1, 1, 0, 1, 0, 0, 1, 1]), (2, [1, 1, 1, 1, 1, 0, 1, 0, 0]), (1, [0]), (0, [1, 1, 1, 1, 1, 1])].map (toItem (Tryz.f138.body.getD .skip))) [(0, .pointer k), (1, .string s), (5, .pointer (some ⟨t, 0, none⟩)), (6, .int .i64 p), (7, .int .i64 i), (63, .bool t63)] w := by
  exact block_spec Tryz.func138 Tryz.mixed (stops_cons (fun σ w h => by
      obtain ⟨k_, e0, h⟩ := dP_elim h
      obtain ⟨s_, e1, h⟩ := dS_elim h
      obtain ⟨t_, e2, h⟩ := dK_elim h
      obtain ⟨p_, e3, h⟩ := dI_elim h
      obtain ⟨i_, e4, h⟩ := dI_elim h
      exact (hN1 k_ s_ t_ p_ i_ w h).weaken (Sub.cons (Sub.cons (Sub.cons (Sub.cons (Sub.cons (Sub.nil _) e4) e3) e2) e1) e0)) stops_nil) (Eq.mp (kvm_KV_Restore.B2_eq k s t p i t63 w N1  R ) h)
def kvm_KV_Restore.B3 (k : Option Addr) (s : ByteArray) (t : Nat) (p c : Int) (t93 : Bool) (w : World) (N2 : Option Addr → ByteArray → Nat → Int → Int → World → Prop)  (R : Int → World → Prop) : Prop :=
  Bm t93 (
    R (15 : Int) w) (
    (0 ≤ (IntKind.i64.wrap (p + (8 : Int))) ∧ (IntKind.i64.wrap (p + (8 : Int))) < ((s.size : Nat) : Int)) ∧
    (0 ≤ c ∧ c < ((3 : Nat) : Int)) ∧
    Sts [.int .i64 (IntKind.i64.wrap (byteAt s (IntKind.i64.wrap (p + (8 : Int)))))] (Addr.add ⟨t, 12, none⟩ (c.toNat * 2)) 0 w fun w1 =>
    kvm_take.Call s (IntKind.i64.wrap (p + (9 : Int))) (0 : Int) (3 : Int) w1 fun r108_0 r108_1 w2 =>
    (0 ≤ c ∧ c < ((3 : Nat) : Int)) ∧
    Sts [.string r108_0] ((Addr.add ⟨t, 12, none⟩ (c.toNat * 2)).add 1) 0 w2 fun w3 =>
    Bm (decide (r108_1 < (0 : Int))) (
      R (15 : Int) w3) (
      N2 k s t r108_1 (IntKind.i64.wrap (c + (1 : Int))) w3))
theorem kvm_KV_Restore.B3_eq (k : Option Addr) (s : ByteArray) (t : Nat) (p c : Int) (t93 : Bool) (w : World) (N2 : Option Addr → ByteArray → Nat → Int → Int → World → Prop)  (R : Int → World → Prop)  :
    (
  Bm t93 (
    R (15 : Int) w) (
    (0 ≤ (IntKind.i64.wrap (p + (8 : Int))) ∧ (IntKind.i64.wrap (p + (8 : Int))) < ((s.size : Nat) : Int)) ∧
    (0 ≤ c ∧ c < ((3 : Nat) : Int)) ∧
    Sts [.int .i64 (IntKind.i64.wrap (byteAt s (IntKind.i64.wrap (p + (8 : Int)))))] (Addr.add ⟨t, 12, none⟩ (c.toNat * 2)) 0 w fun w1 =>
    kvm_take.Call s (IntKind.i64.wrap (p + (9 : Int))) (0 : Int) (3 : Int) w1 fun r108_0 r108_1 w2 =>
    (0 ≤ c ∧ c < ((3 : Nat) : Int)) ∧
    Sts [.string r108_0] ((Addr.add ⟨t, 12, none⟩ (c.toNat * 2)).add 1) 0 w2 fun w3 =>
    Bm (decide (r108_1 < (0 : Int))) (
      R (15 : Int) w3) (
      N2 k s t r108_1 (IntKind.i64.wrap (c + (1 : Int))) w3))) = kstep Tryz.prog 145 Tryz.f138.results.toList (Tryz.f138.body.getD .skip) (kvm_KV_Restore.RV R) (kvc Tryz.prog 145 Tryz.f138.results.toList (Tryz.f138.body.getD .skip) (kvm_KV_Restore.RV R) [([(0, [1, 1, 1, 1, 1, 1, 0, 1, 0, 0]), (2, [1, 1, 1, 1, 1, 1, 0, 1, 0, 0]), (1, [2]), (0, [1, 1, 1, 1, 1, 1, 1])], fun σ w => dP (slotOf σ 0) fun k_ => dS (slotOf σ 1) fun s_ => dK (slotOf σ 5) fun t_ => dI .i64 (slotOf σ 6) fun p_ => dI .i64 (slotOf σ 8) fun c_ => N2 k_ s_ t_ p_ c_ w)] 2000) [(0, [1, 1, 1, 1, 1, 1, 0, 1, 0, 0, 1, 0, 0, 1, 0, 1]), (0, [1, 1, 1, 1, 1, 1, 0, 1, 0, 0, 1, 0, 0, 1, 1]), (1, [3]), (0, [1, 1, 1, 1, 1, 1, 0, 1, 0, 0, 1, 1]), (2, [1, 1, 1, 1, 1, 1, 0, 1, 0, 0]), (1, [2]), (0, [1, 1, 1, 1, 1, 1, 1])] [(0, .pointer k), (1, .string s), (5, .pointer (some ⟨t, 0, none⟩)), (6, .int .i64 p), (8, .int .i64 c), (93, .bool t93)] w := by kernel_rfl
theorem kvm_KV_Restore.B3_sound {R : Int → World → Prop} {N2 : Option Addr → ByteArray → Nat → Int → Int → World → Prop} (hN2 : ∀ k s t p c w, N2 k s t p c w → KW Tryz.prog 138 145 (kvm_KV_Restore.RV R) ([(0, [1, 1, 1, 1, 1, 1, 0, 1, 0, 0]), (2, [1, 1, 1, 1, 1, 1, 0, 1, 0, 0]), (1, [2]), (0, [1, 1, 1, 1, 1, 1, 1])].map (toItem (Tryz.f138.body.getD .skip))) [(0, .pointer k), (1, .string s), (5, .pointer (some ⟨t, 0, none⟩)), (6, .int .i64 p), (8, .int .i64 c)] w) (k : Option Addr) (s : ByteArray) (t : Nat) (p c : Int) (t93 : Bool) (w : World) (h : kvm_KV_Restore.B3 k s t p c t93 w N2  R) :
    KW Tryz.prog 138 145 (kvm_KV_Restore.RV R) ([(0, [1, 1, 1, 1, 1, 1, 0, 1, 0, 0, 1, 0, 0, 1, 0, 1]), (0, [1, 1, 1, 1, 1, 1, 0, 1, 0, 0, 1, 0, 0, 1, 1]), (1, [3]), (0, [1, 1, 1, 1, 1, 1, 0, 1, 0, 0, 1, 1]), (2, [1, 1, 1, 1, 1, 1, 0, 1, 0, 0]), (1, [2]), (0, [1, 1, 1, 1, 1, 1, 1])].map (toItem (Tryz.f138.body.getD .skip))) [(0, .pointer k), (1, .string s), (5, .pointer (some ⟨t, 0, none⟩)), (6, .int .i64 p), (8, .int .i64 c), (93, .bool t93)] w := by
  exact block_spec Tryz.func138 Tryz.mixed (stops_cons (fun σ w h => by
      obtain ⟨k_, e0, h⟩ := dP_elim h
      obtain ⟨s_, e1, h⟩ := dS_elim h
      obtain ⟨t_, e2, h⟩ := dK_elim h
      obtain ⟨p_, e3, h⟩ := dI_elim h
      obtain ⟨c_, e4, h⟩ := dI_elim h
      exact (hN2 k_ s_ t_ p_ c_ w h).weaken (Sub.cons (Sub.cons (Sub.cons (Sub.cons (Sub.cons (Sub.nil _) e4) e3) e2) e1) e0)) stops_nil) (Eq.mp (kvm_KV_Restore.B3_eq k s t p c t93 w N2  R ) h)
def kvm_KV_Restore.L2b (k : Option Addr) (s : ByteArray) (t : Nat) (p c : Int) (w : World)  (N2 : Option Addr → ByteArray → Nat → Int → Int → World → Prop) (R : Int → World → Prop) : Prop :=
  Bm (decide (c < (3 : Int))) (
    api_GetU64.Call s p w fun r71 w1 =>
    (0 ≤ c ∧ c < ((3 : Nat) : Int)) ∧
    Sts [.int .i64 r71] (Addr.add ⟨t, 9, none⟩ (c.toNat * 1)) 0 w1 fun w2 =>
    (0 ≤ c ∧ c < ((3 : Nat) : Int)) ∧
    LdI .i64 (Addr.add ⟨t, 9, none⟩ (c.toNat * 1)) w2 fun x77 =>
    Bm (decide (x77 < (0 : Int))) (
      kvm_KV_Restore.B3 k s t p c true w2 N2 R) (
      Bm (decide ((IntKind.i64.wrap (p + (8 : Int))) ≥ ((s.size : Nat) : Int))) (
        kvm_KV_Restore.B3 k s t p c true w2 N2 R) (
        (0 ≤ (IntKind.i64.wrap (p + (8 : Int))) ∧ (IntKind.i64.wrap (p + (8 : Int))) < ((s.size : Nat) : Int)) ∧
        kvm_KV_Restore.B3 k s t p c (decide ((IntKind.i64.wrap (byteAt s (IntKind.i64.wrap (p + (8 : Int))))) ≥ (16 : Int))) w2 N2 R))) (
    Bm (p != ((s.size : Nat) : Int)) (
      R (15 : Int) w) (
      LdI .i64 ⟨t, 0, none⟩ w.drew fun x126 =>
      LdS ⟨t, 1, none⟩ w.drew fun x128_0 =>
      LdS ⟨t, 2, none⟩ w.drew fun x128_1 =>
      LdS ⟨t, 3, none⟩ w.drew fun x128_2 =>
      LdS ⟨t, 4, none⟩ w.drew fun x128_3 =>
      LdS ⟨t, 5, none⟩ w.drew fun x130_0 =>
      LdS ⟨t, 6, none⟩ w.drew fun x130_1 =>
      LdS ⟨t, 7, none⟩ w.drew fun x130_2 =>
      LdS ⟨t, 8, none⟩ w.drew fun x130_3 =>
      LdI .i64 ⟨t, 9, none⟩ w.drew fun x132_0 =>
      LdI .i64 ⟨t, 10, none⟩ w.drew fun x132_1 =>
      LdI .i64 ⟨t, 11, none⟩ w.drew fun x132_2 =>
      LdI .i64 ⟨t, 12, none⟩ w.drew fun x134_0 =>
      LdS ⟨t, 13, none⟩ w.drew fun x134_1 =>
      LdI .i64 ⟨t, 14, none⟩ w.drew fun x134_2 =>
      LdS ⟨t, 15, none⟩ w.drew fun x134_3 =>
      LdI .i64 ⟨t, 16, none⟩ w.drew fun x134_4 =>
      LdS ⟨t, 17, none⟩ w.drew fun x134_5 =>
      Pn k fun a =>
      Sts [.int .i64 x126] a 0 w.drew fun w3 =>
      w3.cell? ⟨t, 12, none⟩ = some (.int .i64 x134_0) ∧
      w3.cell? ⟨t, 13, none⟩ = some (.string x134_1) ∧
      w3.cell? ⟨t, 14, none⟩ = some (.int .i64 x134_2) ∧
      w3.cell? ⟨t, 15, none⟩ = some (.string x134_3) ∧
      w3.cell? ⟨t, 16, none⟩ = some (.int .i64 x134_4) ∧
      w3.cell? ⟨t, 17, none⟩ = some (.string x134_5) ∧
      w3.cell? ⟨t, 9, none⟩ = some (.int .i64 x132_0) ∧
      w3.cell? ⟨t, 10, none⟩ = some (.int .i64 x132_1) ∧
      w3.cell? ⟨t, 11, none⟩ = some (.int .i64 x132_2) ∧
      w3.cell? ⟨t, 5, none⟩ = some (.string x130_0) ∧
      w3.cell? ⟨t, 6, none⟩ = some (.string x130_1) ∧
      w3.cell? ⟨t, 7, none⟩ = some (.string x130_2) ∧
      w3.cell? ⟨t, 8, none⟩ = some (.string x130_3) ∧
      w3.cell? ⟨t, 1, none⟩ = some (.string x128_0) ∧
      w3.cell? ⟨t, 2, none⟩ = some (.string x128_1) ∧
      w3.cell? ⟨t, 3, none⟩ = some (.string x128_2) ∧
      w3.cell? ⟨t, 4, none⟩ = some (.string x128_3) ∧
      Pn k fun a_1 =>
      Sts [.string x128_0, .string x128_1, .string x128_2, .string x128_3] (a_1.add 1) 0 w3 fun w4 =>
      w4.cell? ⟨t, 12, none⟩ = some (.int .i64 x134_0) ∧
      w4.cell? ⟨t, 13, none⟩ = some (.string x134_1) ∧
      w4.cell? ⟨t, 14, none⟩ = some (.int .i64 x134_2) ∧
      w4.cell? ⟨t, 15, none⟩ = some (.string x134_3) ∧
      w4.cell? ⟨t, 16, none⟩ = some (.int .i64 x134_4) ∧
      w4.cell? ⟨t, 17, none⟩ = some (.string x134_5) ∧
      w4.cell? ⟨t, 9, none⟩ = some (.int .i64 x132_0) ∧
      w4.cell? ⟨t, 10, none⟩ = some (.int .i64 x132_1) ∧
      w4.cell? ⟨t, 11, none⟩ = some (.int .i64 x132_2) ∧
      w4.cell? ⟨t, 5, none⟩ = some (.string x130_0) ∧
      w4.cell? ⟨t, 6, none⟩ = some (.string x130_1) ∧
      w4.cell? ⟨t, 7, none⟩ = some (.string x130_2) ∧
      w4.cell? ⟨t, 8, none⟩ = some (.string x130_3) ∧
      Pn k fun a_2 =>
      Sts [.string x130_0, .string x130_1, .string x130_2, .string x130_3] (a_2.add 5) 0 w4 fun w5 =>
      w5.cell? ⟨t, 12, none⟩ = some (.int .i64 x134_0) ∧
      w5.cell? ⟨t, 13, none⟩ = some (.string x134_1) ∧
      w5.cell? ⟨t, 14, none⟩ = some (.int .i64 x134_2) ∧
      w5.cell? ⟨t, 15, none⟩ = some (.string x134_3) ∧
      w5.cell? ⟨t, 16, none⟩ = some (.int .i64 x134_4) ∧
      w5.cell? ⟨t, 17, none⟩ = some (.string x134_5) ∧
      w5.cell? ⟨t, 9, none⟩ = some (.int .i64 x132_0) ∧
      w5.cell? ⟨t, 10, none⟩ = some (.int .i64 x132_1) ∧
      w5.cell? ⟨t, 11, none⟩ = some (.int .i64 x132_2) ∧
      Pn k fun a_3 =>
      Sts [.int .i64 x132_0, .int .i64 x132_1, .int .i64 x132_2] (a_3.add 9) 0 w5 fun w6 =>
      w6.cell? ⟨t, 12, none⟩ = some (.int .i64 x134_0) ∧
      w6.cell? ⟨t, 13, none⟩ = some (.string x134_1) ∧
      w6.cell? ⟨t, 14, none⟩ = some (.int .i64 x134_2) ∧
      w6.cell? ⟨t, 15, none⟩ = some (.string x134_3) ∧
      w6.cell? ⟨t, 16, none⟩ = some (.int .i64 x134_4) ∧
      w6.cell? ⟨t, 17, none⟩ = some (.string x134_5) ∧
      Pn k fun a_4 =>
      Sts [.int .i64 x134_0, .string x134_1, .int .i64 x134_2, .string x134_3, .int .i64 x134_4, .string x134_5] (a_4.add 12) 0 w6 fun w7 =>
      R (0 : Int) w7))
theorem kvm_KV_Restore.L2b_eq (k : Option Addr) (s : ByteArray) (t : Nat) (p c : Int) (w : World)  (N2 : Option Addr → ByteArray → Nat → Int → Int → World → Prop) (R : Int → World → Prop) (sB3 : Option Addr → ByteArray → Nat → Int → Int → Bool → World → Prop) :
    (
  Bm (decide (c < (3 : Int))) (
    api_GetU64.Call s p w fun r71 w1 =>
    (0 ≤ c ∧ c < ((3 : Nat) : Int)) ∧
    Sts [.int .i64 r71] (Addr.add ⟨t, 9, none⟩ (c.toNat * 1)) 0 w1 fun w2 =>
    (0 ≤ c ∧ c < ((3 : Nat) : Int)) ∧
    LdI .i64 (Addr.add ⟨t, 9, none⟩ (c.toNat * 1)) w2 fun x77 =>
    Bm (decide (x77 < (0 : Int))) (
      sB3 k s t p c true w2) (
      Bm (decide ((IntKind.i64.wrap (p + (8 : Int))) ≥ ((s.size : Nat) : Int))) (
        sB3 k s t p c true w2) (
        (0 ≤ (IntKind.i64.wrap (p + (8 : Int))) ∧ (IntKind.i64.wrap (p + (8 : Int))) < ((s.size : Nat) : Int)) ∧
        sB3 k s t p c (decide ((IntKind.i64.wrap (byteAt s (IntKind.i64.wrap (p + (8 : Int))))) ≥ (16 : Int))) w2))) (
    Bm (p != ((s.size : Nat) : Int)) (
      R (15 : Int) w) (
      LdI .i64 ⟨t, 0, none⟩ w.drew fun x126 =>
      LdS ⟨t, 1, none⟩ w.drew fun x128_0 =>
      LdS ⟨t, 2, none⟩ w.drew fun x128_1 =>
      LdS ⟨t, 3, none⟩ w.drew fun x128_2 =>
      LdS ⟨t, 4, none⟩ w.drew fun x128_3 =>
      LdS ⟨t, 5, none⟩ w.drew fun x130_0 =>
      LdS ⟨t, 6, none⟩ w.drew fun x130_1 =>
      LdS ⟨t, 7, none⟩ w.drew fun x130_2 =>
      LdS ⟨t, 8, none⟩ w.drew fun x130_3 =>
      LdI .i64 ⟨t, 9, none⟩ w.drew fun x132_0 =>
      LdI .i64 ⟨t, 10, none⟩ w.drew fun x132_1 =>
      LdI .i64 ⟨t, 11, none⟩ w.drew fun x132_2 =>
      LdI .i64 ⟨t, 12, none⟩ w.drew fun x134_0 =>
      LdS ⟨t, 13, none⟩ w.drew fun x134_1 =>
      LdI .i64 ⟨t, 14, none⟩ w.drew fun x134_2 =>
      LdS ⟨t, 15, none⟩ w.drew fun x134_3 =>
      LdI .i64 ⟨t, 16, none⟩ w.drew fun x134_4 =>
      LdS ⟨t, 17, none⟩ w.drew fun x134_5 =>
      Pn k fun a =>
      Sts [.int .i64 x126] a 0 w.drew fun w3 =>
      w3.cell? ⟨t, 12, none⟩ = some (.int .i64 x134_0) ∧
      w3.cell? ⟨t, 13, none⟩ = some (.string x134_1) ∧
      w3.cell? ⟨t, 14, none⟩ = some (.int .i64 x134_2) ∧
      w3.cell? ⟨t, 15, none⟩ = some (.string x134_3) ∧
      w3.cell? ⟨t, 16, none⟩ = some (.int .i64 x134_4) ∧
      w3.cell? ⟨t, 17, none⟩ = some (.string x134_5) ∧
      w3.cell? ⟨t, 9, none⟩ = some (.int .i64 x132_0) ∧
      w3.cell? ⟨t, 10, none⟩ = some (.int .i64 x132_1) ∧
      w3.cell? ⟨t, 11, none⟩ = some (.int .i64 x132_2) ∧
      w3.cell? ⟨t, 5, none⟩ = some (.string x130_0) ∧
      w3.cell? ⟨t, 6, none⟩ = some (.string x130_1) ∧
      w3.cell? ⟨t, 7, none⟩ = some (.string x130_2) ∧
      w3.cell? ⟨t, 8, none⟩ = some (.string x130_3) ∧
      w3.cell? ⟨t, 1, none⟩ = some (.string x128_0) ∧
      w3.cell? ⟨t, 2, none⟩ = some (.string x128_1) ∧
      w3.cell? ⟨t, 3, none⟩ = some (.string x128_2) ∧
      w3.cell? ⟨t, 4, none⟩ = some (.string x128_3) ∧
      Pn k fun a_1 =>
      Sts [.string x128_0, .string x128_1, .string x128_2, .string x128_3] (a_1.add 1) 0 w3 fun w4 =>
      w4.cell? ⟨t, 12, none⟩ = some (.int .i64 x134_0) ∧
      w4.cell? ⟨t, 13, none⟩ = some (.string x134_1) ∧
      w4.cell? ⟨t, 14, none⟩ = some (.int .i64 x134_2) ∧
      w4.cell? ⟨t, 15, none⟩ = some (.string x134_3) ∧
      w4.cell? ⟨t, 16, none⟩ = some (.int .i64 x134_4) ∧
      w4.cell? ⟨t, 17, none⟩ = some (.string x134_5) ∧
      w4.cell? ⟨t, 9, none⟩ = some (.int .i64 x132_0) ∧
      w4.cell? ⟨t, 10, none⟩ = some (.int .i64 x132_1) ∧
      w4.cell? ⟨t, 11, none⟩ = some (.int .i64 x132_2) ∧
      w4.cell? ⟨t, 5, none⟩ = some (.string x130_0) ∧
      w4.cell? ⟨t, 6, none⟩ = some (.string x130_1) ∧
      w4.cell? ⟨t, 7, none⟩ = some (.string x130_2) ∧
      w4.cell? ⟨t, 8, none⟩ = some (.string x130_3) ∧
      Pn k fun a_2 =>
      Sts [.string x130_0, .string x130_1, .string x130_2, .string x130_3] (a_2.add 5) 0 w4 fun w5 =>
      w5.cell? ⟨t, 12, none⟩ = some (.int .i64 x134_0) ∧
      w5.cell? ⟨t, 13, none⟩ = some (.string x134_1) ∧
      w5.cell? ⟨t, 14, none⟩ = some (.int .i64 x134_2) ∧
      w5.cell? ⟨t, 15, none⟩ = some (.string x134_3) ∧
      w5.cell? ⟨t, 16, none⟩ = some (.int .i64 x134_4) ∧
      w5.cell? ⟨t, 17, none⟩ = some (.string x134_5) ∧
      w5.cell? ⟨t, 9, none⟩ = some (.int .i64 x132_0) ∧
      w5.cell? ⟨t, 10, none⟩ = some (.int .i64 x132_1) ∧
      w5.cell? ⟨t, 11, none⟩ = some (.int .i64 x132_2) ∧
      Pn k fun a_3 =>
      Sts [.int .i64 x132_0, .int .i64 x132_1, .int .i64 x132_2] (a_3.add 9) 0 w5 fun w6 =>
      w6.cell? ⟨t, 12, none⟩ = some (.int .i64 x134_0) ∧
      w6.cell? ⟨t, 13, none⟩ = some (.string x134_1) ∧
      w6.cell? ⟨t, 14, none⟩ = some (.int .i64 x134_2) ∧
      w6.cell? ⟨t, 15, none⟩ = some (.string x134_3) ∧
      w6.cell? ⟨t, 16, none⟩ = some (.int .i64 x134_4) ∧
      w6.cell? ⟨t, 17, none⟩ = some (.string x134_5) ∧
      Pn k fun a_4 =>
      Sts [.int .i64 x134_0, .string x134_1, .int .i64 x134_2, .string x134_3, .int .i64 x134_4, .string x134_5] (a_4.add 12) 0 w6 fun w7 =>
      R (0 : Int) w7))) = kstep Tryz.prog 145 Tryz.f138.results.toList (Tryz.f138.body.getD .skip) (kvm_KV_Restore.RV R) (kvc Tryz.prog 145 Tryz.f138.results.toList (Tryz.f138.body.getD .skip) (kvm_KV_Restore.RV R) [([(0, [1, 1, 1, 1, 1, 1, 0, 1, 0, 0, 1, 0, 0, 1, 0, 1]), (0, [1, 1, 1, 1, 1, 1, 0, 1, 0, 0, 1, 0, 0, 1, 1]), (1, [3]), (0, [1, 1, 1, 1, 1, 1, 0, 1, 0, 0, 1, 1]), (2, [1, 1, 1, 1, 1, 1, 0, 1, 0, 0]), (1, [2]), (0, [1, 1, 1, 1, 1, 1, 1])], fun σ w => dP (slotOf σ 0) fun k_ => dS (slotOf σ 1) fun s_ => dK (slotOf σ 5) fun t_ => dI .i64 (slotOf σ 6) fun p_ => dI .i64 (slotOf σ 8) fun c_ => dB (slotOf σ 93) fun t93_ => sB3 k_ s_ t_ p_ c_ t93_ w)] 2000) [(0, [1, 1, 1, 1, 1, 1, 0, 1, 0, 0]), (2, [1, 1, 1, 1, 1, 1, 0, 1, 0, 0]), (1, [2]), (0, [1, 1, 1, 1, 1, 1, 1])] [(0, .pointer k), (1, .string s), (5, .pointer (some ⟨t, 0, none⟩)), (6, .int .i64 p), (8, .int .i64 c)] w := by kernel_rfl
theorem kvm_KV_Restore.L2b_sound {R : Int → World → Prop} {N2 : Option Addr → ByteArray → Nat → Int → Int → World → Prop} (hN2 : ∀ k s t p c w, N2 k s t p c w → KW Tryz.prog 138 145 (kvm_KV_Restore.RV R) ([(0, [1, 1, 1, 1, 1, 1, 0, 1, 0, 0]), (2, [1, 1, 1, 1, 1, 1, 0, 1, 0, 0]), (1, [2]), (0, [1, 1, 1, 1, 1, 1, 1])].map (toItem (Tryz.f138.body.getD .skip))) [(0, .pointer k), (1, .string s), (5, .pointer (some ⟨t, 0, none⟩)), (6, .int .i64 p), (8, .int .i64 c)] w) (k : Option Addr) (s : ByteArray) (t : Nat) (p c : Int) (w : World) (h : kvm_KV_Restore.L2b k s t p c w  N2 R) :
    KW Tryz.prog 138 145 (kvm_KV_Restore.RV R) ([(0, [1, 1, 1, 1, 1, 1, 0, 1, 0, 0]), (2, [1, 1, 1, 1, 1, 1, 0, 1, 0, 0]), (1, [2]), (0, [1, 1, 1, 1, 1, 1, 1])].map (toItem (Tryz.f138.body.getD .skip))) [(0, .pointer k), (1, .string s), (5, .pointer (some ⟨t, 0, none⟩)), (6, .int .i64 p), (8, .int .i64 c)] w := by
  exact block_spec Tryz.func138 Tryz.mixed (stops_cons (fun σ w h => by
      obtain ⟨k_, e0, h⟩ := dP_elim h
      obtain ⟨s_, e1, h⟩ := dS_elim h
      obtain ⟨t_, e2, h⟩ := dK_elim h
      obtain ⟨p_, e3, h⟩ := dI_elim h
      obtain ⟨c_, e4, h⟩ := dI_elim h
      obtain ⟨t93_, e5, h⟩ := dB_elim h
      exact (kvm_KV_Restore.B3_sound hN2 k_ s_ t_ p_ c_ t93_ w h).weaken (Sub.cons (Sub.cons (Sub.cons (Sub.cons (Sub.cons (Sub.cons (Sub.nil _) e5) e4) e3) e2) e1) e0)) stops_nil) (Eq.mp (kvm_KV_Restore.L2b_eq k s t p c w  N2 R (fun k_ s_ t_ p_ c_ t93_ w => kvm_KV_Restore.B3 k_ s_ t_ p_ c_ t93_ w N2 R)) h)
def kvm_KV_Restore.L2 (k : Option Addr) (s : ByteArray) (t : Nat) (p c : Int) (w : World)  (R : Int → World → Prop) : Prop :=
  ∃ (I : Nat → Option Addr → ByteArray → Nat → Int → Int → World → Prop) (m : Nat), I m k s t p c w ∧ ∀ m k s t p c w, I m k s t p c w → kvm_KV_Restore.L2b k s t p c w  (fun k' s' t' p' c' w' => ∃ m', m' < m ∧ I m' k' s' t' p' c' w') R
theorem kvm_KV_Restore.L2_sound {R : Int → World → Prop}  (k : Option Addr) (s : ByteArray) (t : Nat) (p c : Int) (w : World) (h : kvm_KV_Restore.L2 k s t p c w  R) :
    KW Tryz.prog 138 145 (kvm_KV_Restore.RV R) ([(0, [1, 1, 1, 1, 1, 1, 0, 1, 0, 0]), (2, [1, 1, 1, 1, 1, 1, 0, 1, 0, 0]), (1, [2]), (0, [1, 1, 1, 1, 1, 1, 1])].map (toItem (Tryz.f138.body.getD .skip))) [(0, .pointer k), (1, .string s), (5, .pointer (some ⟨t, 0, none⟩)), (6, .int .i64 p), (8, .int .i64 c)] w := by
  obtain ⟨I, m, hBase, hr⟩ := h
  refine KW.loop (fun m σ w => ∃ (k : Option Addr) (s : ByteArray) (t : Nat) (p c : Int), σ = [(0, .pointer k), (1, .string s), (5, .pointer (some ⟨t, 0, none⟩)), (6, .int .i64 p), (8, .int .i64 c)] ∧ I m k s t p c w) ?_ m _ w ⟨k, s, t, p, c, rfl, hBase⟩
  rintro m ih σ w ⟨k, s, t, p, c, rfl, hI⟩
  exact kvm_KV_Restore.L2b_sound  (N2 := fun k' s' t' p' c' w' => ∃ m', m' < m ∧ I m' k' s' t' p' c' w') (fun k' s' t' p' c' w' hx => by obtain ⟨m', hlt, hI'⟩ := hx; exact ih m' hlt _ w' ⟨k', s', t', p', c', rfl, hI'⟩) k s t p c w (hr m k s t p c w hI)
def kvm_KV_Restore.L1b (k : Option Addr) (s : ByteArray) (t : Nat) (p i : Int) (w : World)  (N1 : Option Addr → ByteArray → Nat → Int → Int → World → Prop) (R : Int → World → Prop) : Prop :=
  LdI .i64 ⟨t, 0, none⟩ w fun x24 =>
  Bm (decide (i < x24)) (
    kvm_take.Call s p (1 : Int) (2 : Int) w fun r32_0 r32_1 w1 =>
    (0 ≤ i ∧ i < ((4 : Nat) : Int)) ∧
    Sts [.string r32_0] (Addr.add ⟨t, 1, none⟩ (i.toNat * 1)) 0 w1 fun w2 =>
    kvm_take.Call s r32_1 (0 : Int) (3 : Int) w2 fun r41_0 r41_1 w3 =>
    (0 ≤ i ∧ i < ((4 : Nat) : Int)) ∧
    Sts [.string r41_0] (Addr.add ⟨t, 5, none⟩ (i.toNat * 1)) 0 w3 fun w4 =>
    Bm (decide (r41_1 < (0 : Int))) (
      kvm_KV_Restore.B2 k s t r41_1 i true w4.drew N1 R) (
      Bm (decide (i > (0 : Int))) (
        (0 ≤ (IntKind.i64.wrap (i - (1 : Int))) ∧ (IntKind.i64.wrap (i - (1 : Int))) < ((4 : Nat) : Int)) ∧
        LdS (Addr.add ⟨t, 1, none⟩ ((IntKind.i64.wrap (i - (1 : Int))).toNat * 1)) w4.drew fun x56 =>
        (0 ≤ i ∧ i < ((4 : Nat) : Int)) ∧
        LdS (Addr.add ⟨t, 1, none⟩ (i.toNat * 1)) w4.drew fun x60 =>
        kvm_KV_Restore.B2 k s t r41_1 i (!(Op.bytesLess x56.toList x60.toList)) w4.drew N1 R) (
        kvm_KV_Restore.B2 k s t r41_1 i false w4.drew N1 R))) (
    kvm_KV_Restore.L2 k s t p (0 : Int) w  R)
theorem kvm_KV_Restore.L1b_eq (k : Option Addr) (s : ByteArray) (t : Nat) (p i : Int) (w : World)  (N1 : Option Addr → ByteArray → Nat → Int → Int → World → Prop) (R : Int → World → Prop) (sB2 : Option Addr → ByteArray → Nat → Int → Int → Bool → World → Prop) (sL2 : Option Addr → ByteArray → Nat → Int → Int → World → Prop) :
    (
  LdI .i64 ⟨t, 0, none⟩ w fun x24 =>
  Bm (decide (i < x24)) (
    kvm_take.Call s p (1 : Int) (2 : Int) w fun r32_0 r32_1 w1 =>
    (0 ≤ i ∧ i < ((4 : Nat) : Int)) ∧
    Sts [.string r32_0] (Addr.add ⟨t, 1, none⟩ (i.toNat * 1)) 0 w1 fun w2 =>
    kvm_take.Call s r32_1 (0 : Int) (3 : Int) w2 fun r41_0 r41_1 w3 =>
    (0 ≤ i ∧ i < ((4 : Nat) : Int)) ∧
    Sts [.string r41_0] (Addr.add ⟨t, 5, none⟩ (i.toNat * 1)) 0 w3 fun w4 =>
    Bm (decide (r41_1 < (0 : Int))) (
      sB2 k s t r41_1 i true w4.drew) (
      Bm (decide (i > (0 : Int))) (
        (0 ≤ (IntKind.i64.wrap (i - (1 : Int))) ∧ (IntKind.i64.wrap (i - (1 : Int))) < ((4 : Nat) : Int)) ∧
        LdS (Addr.add ⟨t, 1, none⟩ ((IntKind.i64.wrap (i - (1 : Int))).toNat * 1)) w4.drew fun x56 =>
        (0 ≤ i ∧ i < ((4 : Nat) : Int)) ∧
        LdS (Addr.add ⟨t, 1, none⟩ (i.toNat * 1)) w4.drew fun x60 =>
        sB2 k s t r41_1 i (!(Op.bytesLess x56.toList x60.toList)) w4.drew) (
        sB2 k s t r41_1 i false w4.drew))) (
    sL2 k s t p (0 : Int) w)) = kstep Tryz.prog 145 Tryz.f138.results.toList (Tryz.f138.body.getD .skip) (kvm_KV_Restore.RV R) (kvc Tryz.prog 145 Tryz.f138.results.toList (Tryz.f138.body.getD .skip) (kvm_KV_Restore.RV R) [([(0, [1, 1, 1, 1, 1, 0, 1, 0, 0, 1, 0, 0, 1, 1, 1]), (1, [1]), (0, [1, 1, 1, 1, 1, 0, 1, 0, 0, 1, 1]), (2, [1, 1, 1, 1, 1, 0, 1, 0, 0]), (1, [0]), (0, [1, 1, 1, 1, 1, 1])], fun σ w => dP (slotOf σ 0) fun k_ => dS (slotOf σ 1) fun s_ => dK (slotOf σ 5) fun t_ => dI .i64 (slotOf σ 6) fun p_ => dI .i64 (slotOf σ 7) fun i_ => dB (slotOf σ 63) fun t63_ => sB2 k_ s_ t_ p_ i_ t63_ w),
    ([(0, [1, 1, 1, 1, 1, 1, 0, 1, 0, 0]), (2, [1, 1, 1, 1, 1, 1, 0, 1, 0, 0]), (1, [2]), (0, [1, 1, 1, 1, 1, 1, 1])], fun σ w => dP (slotOf σ 0) fun k_ => dS (slotOf σ 1) fun s_ => dK (slotOf σ 5) fun t_ => dI .i64 (slotOf σ 6) fun p_ => dI .i64 (slotOf σ 8) fun c_ => sL2 k_ s_ t_ p_ c_ w)] 2000) [(0, [1, 1, 1, 1, 1, 0, 1, 0, 0]), (2, [1, 1, 1, 1, 1, 0, 1, 0, 0]), (1, [0]), (0, [1, 1, 1, 1, 1, 1])] [(0, .pointer k), (1, .string s), (5, .pointer (some ⟨t, 0, none⟩)), (6, .int .i64 p), (7, .int .i64 i)] w := by kernel_rfl
theorem kvm_KV_Restore.L1b_sound {R : Int → World → Prop} {N1 : Option Addr → ByteArray → Nat → Int → Int → World → Prop} (hN1 : ∀ k s t p i w, N1 k s t p i w → KW Tryz.prog 138 145 (kvm_KV_Restore.RV R) ([(0, [1, 1, 1, 1, 1, 0, 1, 0, 0]), (2, [1, 1, 1, 1, 1, 0, 1, 0, 0]), (1, [0]), (0, [1, 1, 1, 1, 1, 1])].map (toItem (Tryz.f138.body.getD .skip))) [(0, .pointer k), (1, .string s), (5, .pointer (some ⟨t, 0, none⟩)), (6, .int .i64 p), (7, .int .i64 i)] w) (k : Option Addr) (s : ByteArray) (t : Nat) (p i : Int) (w : World) (h : kvm_KV_Restore.L1b k s t p i w  N1 R) :
    KW Tryz.prog 138 145 (kvm_KV_Restore.RV R) ([(0, [1, 1, 1, 1, 1, 0, 1, 0, 0]), (2, [1, 1, 1, 1, 1, 0, 1, 0, 0]), (1, [0]), (0, [1, 1, 1, 1, 1, 1])].map (toItem (Tryz.f138.body.getD .skip))) [(0, .pointer k), (1, .string s), (5, .pointer (some ⟨t, 0, none⟩)), (6, .int .i64 p), (7, .int .i64 i)] w := by
  exact block_spec Tryz.func138 Tryz.mixed (stops_cons (fun σ w h => by
      obtain ⟨k_, e0, h⟩ := dP_elim h
      obtain ⟨s_, e1, h⟩ := dS_elim h
      obtain ⟨t_, e2, h⟩ := dK_elim h
      obtain ⟨p_, e3, h⟩ := dI_elim h
      obtain ⟨i_, e4, h⟩ := dI_elim h
      obtain ⟨t63_, e5, h⟩ := dB_elim h
      exact (kvm_KV_Restore.B2_sound hN1 k_ s_ t_ p_ i_ t63_ w h).weaken (Sub.cons (Sub.cons (Sub.cons (Sub.cons (Sub.cons (Sub.cons (Sub.nil _) e5) e4) e3) e2) e1) e0)) (stops_cons (fun σ w h => by
      obtain ⟨k_, e0, h⟩ := dP_elim h
      obtain ⟨s_, e1, h⟩ := dS_elim h
      obtain ⟨t_, e2, h⟩ := dK_elim h
      obtain ⟨p_, e3, h⟩ := dI_elim h
      obtain ⟨c_, e4, h⟩ := dI_elim h
      exact (kvm_KV_Restore.L2_sound  k_ s_ t_ p_ c_ w h).weaken (Sub.cons (Sub.cons (Sub.cons (Sub.cons (Sub.cons (Sub.nil _) e4) e3) e2) e1) e0)) stops_nil)) (Eq.mp (kvm_KV_Restore.L1b_eq k s t p i w  N1 R (fun k_ s_ t_ p_ i_ t63_ w => kvm_KV_Restore.B2 k_ s_ t_ p_ i_ t63_ w N1 R) (fun k_ s_ t_ p_ c_ w => kvm_KV_Restore.L2 k_ s_ t_ p_ c_ w  R)) h)
def kvm_KV_Restore.L1 (k : Option Addr) (s : ByteArray) (t : Nat) (p i : Int) (w : World)  (R : Int → World → Prop) : Prop :=
  ∃ (I : Nat → Option Addr → ByteArray → Nat → Int → Int → World → Prop) (m : Nat), I m k s t p i w ∧ ∀ m k s t p i w, I m k s t p i w → kvm_KV_Restore.L1b k s t p i w  (fun k' s' t' p' i' w' => ∃ m', m' < m ∧ I m' k' s' t' p' i' w') R
theorem kvm_KV_Restore.L1_sound {R : Int → World → Prop}  (k : Option Addr) (s : ByteArray) (t : Nat) (p i : Int) (w : World) (h : kvm_KV_Restore.L1 k s t p i w  R) :
    KW Tryz.prog 138 145 (kvm_KV_Restore.RV R) ([(0, [1, 1, 1, 1, 1, 0, 1, 0, 0]), (2, [1, 1, 1, 1, 1, 0, 1, 0, 0]), (1, [0]), (0, [1, 1, 1, 1, 1, 1])].map (toItem (Tryz.f138.body.getD .skip))) [(0, .pointer k), (1, .string s), (5, .pointer (some ⟨t, 0, none⟩)), (6, .int .i64 p), (7, .int .i64 i)] w := by
  obtain ⟨I, m, hBase, hr⟩ := h
  refine KW.loop (fun m σ w => ∃ (k : Option Addr) (s : ByteArray) (t : Nat) (p i : Int), σ = [(0, .pointer k), (1, .string s), (5, .pointer (some ⟨t, 0, none⟩)), (6, .int .i64 p), (7, .int .i64 i)] ∧ I m k s t p i w) ?_ m _ w ⟨k, s, t, p, i, rfl, hBase⟩
  rintro m ih σ w ⟨k, s, t, p, i, rfl, hI⟩
  exact kvm_KV_Restore.L1b_sound  (N1 := fun k' s' t' p' i' w' => ∃ m', m' < m ∧ I m' k' s' t' p' i' w') (fun k' s' t' p' i' w' hx => by obtain ⟨m', hlt, hI'⟩ := hx; exact ih m' hlt _ w' ⟨k', s', t', p', i', rfl, hI'⟩) k s t p i w (hr m k s t p i w hI)
def kvm_KV_Restore.B1 (k : Option Addr) (s : ByteArray) (t : Nat) (t17 : Bool) (w : World)   (R : Int → World → Prop) : Prop :=
  Bm t17 (
    R (15 : Int) w) (
    (0 ≤ (0 : Int) ∧ (0 : Int) < ((s.size : Nat) : Int)) ∧
    Sts [.int .i64 (IntKind.i64.wrap (byteAt s (0 : Int)))] ⟨t, 0, none⟩ 0 w fun w1 =>
    kvm_KV_Restore.L1 k s t (1 : Int) (0 : Int) w1  R)
theorem kvm_KV_Restore.B1_eq (k : Option Addr) (s : ByteArray) (t : Nat) (t17 : Bool) (w : World)   (R : Int → World → Prop) (sL1 : Option Addr → ByteArray → Nat → Int → Int → World → Prop) :
    (
  Bm t17 (
    R (15 : Int) w) (
    (0 ≤ (0 : Int) ∧ (0 : Int) < ((s.size : Nat) : Int)) ∧
    Sts [.int .i64 (IntKind.i64.wrap (byteAt s (0 : Int)))] ⟨t, 0, none⟩ 0 w fun w1 =>
    sL1 k s t (1 : Int) (0 : Int) w1)) = kstep Tryz.prog 145 Tryz.f138.results.toList (Tryz.f138.body.getD .skip) (kvm_KV_Restore.RV R) (kvc Tryz.prog 145 Tryz.f138.results.toList (Tryz.f138.body.getD .skip) (kvm_KV_Restore.RV R) [([(0, [1, 1, 1, 1, 1, 0, 1, 0, 0]), (2, [1, 1, 1, 1, 1, 0, 1, 0, 0]), (1, [0]), (0, [1, 1, 1, 1, 1, 1])], fun σ w => dP (slotOf σ 0) fun k_ => dS (slotOf σ 1) fun s_ => dK (slotOf σ 5) fun t_ => dI .i64 (slotOf σ 6) fun p_ => dI .i64 (slotOf σ 7) fun i_ => sL1 k_ s_ t_ p_ i_ w)] 2000) [(0, [1, 1, 0, 1]), (0, [1, 1, 1])] [(0, .pointer k), (1, .string s), (5, .pointer (some ⟨t, 0, none⟩)), (17, .bool t17)] w := by kernel_rfl
theorem kvm_KV_Restore.B1_sound {R : Int → World → Prop}  (k : Option Addr) (s : ByteArray) (t : Nat) (t17 : Bool) (w : World) (h : kvm_KV_Restore.B1 k s t t17 w   R) :
    KW Tryz.prog 138 145 (kvm_KV_Restore.RV R) ([(0, [1, 1, 0, 1]), (0, [1, 1, 1])].map (toItem (Tryz.f138.body.getD .skip))) [(0, .pointer k), (1, .string s), (5, .pointer (some ⟨t, 0, none⟩)), (17, .bool t17)] w := by
  exact block_spec Tryz.func138 Tryz.mixed (stops_cons (fun σ w h => by
      obtain ⟨k_, e0, h⟩ := dP_elim h
      obtain ⟨s_, e1, h⟩ := dS_elim h
      obtain ⟨t_, e2, h⟩ := dK_elim h
      obtain ⟨p_, e3, h⟩ := dI_elim h
      obtain ⟨i_, e4, h⟩ := dI_elim h
      exact (kvm_KV_Restore.L1_sound  k_ s_ t_ p_ i_ w h).weaken (Sub.cons (Sub.cons (Sub.cons (Sub.cons (Sub.cons (Sub.nil _) e4) e3) e2) e1) e0)) stops_nil) (Eq.mp (kvm_KV_Restore.B1_eq k s t t17 w   R (fun k_ s_ t_ p_ i_ w => kvm_KV_Restore.L1 k_ s_ t_ p_ i_ w  R)) h)
def kvm_KV_Restore.B0 (k : Option Addr) (s : ByteArray) (w : World)   (R : Int → World → Prop) : Prop :=
  New (.cells #[.int .i64 (0 : Int), .string (ByteArray.mk #[]), .string (ByteArray.mk #[]), .string (ByteArray.mk #[]), .string (ByteArray.mk #[]), .string (ByteArray.mk #[]), .string (ByteArray.mk #[]), .string (ByteArray.mk #[]), .string (ByteArray.mk #[]), .int .i64 (0 : Int), .int .i64 (0 : Int), .int .i64 (0 : Int), .int .i64 (0 : Int), .string (ByteArray.mk #[]), .int .i64 (0 : Int), .string (ByteArray.mk #[]), .int .i64 (0 : Int), .string (ByteArray.mk #[])] 137) w fun t_ w1 =>
  Bm (decide (((s.size : Nat) : Int) < (1 : Int))) (
    kvm_KV_Restore.B1 k s t_ true w1  R) (
    (0 ≤ (0 : Int) ∧ (0 : Int) < ((s.size : Nat) : Int)) ∧
    kvm_KV_Restore.B1 k s t_ (decide ((IntKind.i64.wrap (byteAt s (0 : Int))) > (4 : Int))) w1  R)
theorem kvm_KV_Restore.B0_eq (k : Option Addr) (s : ByteArray) (w : World)   (R : Int → World → Prop) (sB1 : Option Addr → ByteArray → Nat → Bool → World → Prop) :
    (
  New (.cells #[.int .i64 (0 : Int), .string (ByteArray.mk #[]), .string (ByteArray.mk #[]), .string (ByteArray.mk #[]), .string (ByteArray.mk #[]), .string (ByteArray.mk #[]), .string (ByteArray.mk #[]), .string (ByteArray.mk #[]), .string (ByteArray.mk #[]), .int .i64 (0 : Int), .int .i64 (0 : Int), .int .i64 (0 : Int), .int .i64 (0 : Int), .string (ByteArray.mk #[]), .int .i64 (0 : Int), .string (ByteArray.mk #[]), .int .i64 (0 : Int), .string (ByteArray.mk #[])] 137) w fun t_ w1 =>
  Bm (decide (((s.size : Nat) : Int) < (1 : Int))) (
    sB1 k s t_ true w1) (
    (0 ≤ (0 : Int) ∧ (0 : Int) < ((s.size : Nat) : Int)) ∧
    sB1 k s t_ (decide ((IntKind.i64.wrap (byteAt s (0 : Int))) > (4 : Int))) w1)) = kstep Tryz.prog 145 Tryz.f138.results.toList (Tryz.f138.body.getD .skip) (kvm_KV_Restore.RV R) (kvc Tryz.prog 145 Tryz.f138.results.toList (Tryz.f138.body.getD .skip) (kvm_KV_Restore.RV R) [([(0, [1, 1, 0, 1]), (0, [1, 1, 1])], fun σ w => dP (slotOf σ 0) fun k_ => dS (slotOf σ 1) fun s_ => dK (slotOf σ 5) fun t_ => dB (slotOf σ 17) fun t17_ => sB1 k_ s_ t_ t17_ w)] 2000) [(0, [])] [(0, .pointer k), (1, .string s)] w := by kernel_rfl
theorem kvm_KV_Restore.B0_sound {R : Int → World → Prop}  (k : Option Addr) (s : ByteArray) (w : World) (h : kvm_KV_Restore.B0 k s w   R) :
    KW Tryz.prog 138 145 (kvm_KV_Restore.RV R) ([(0, [])].map (toItem (Tryz.f138.body.getD .skip))) [(0, .pointer k), (1, .string s)] w := by
  exact block_spec Tryz.func138 Tryz.mixed (stops_cons (fun σ w h => by
      obtain ⟨k_, e0, h⟩ := dP_elim h
      obtain ⟨s_, e1, h⟩ := dS_elim h
      obtain ⟨t_, e2, h⟩ := dK_elim h
      obtain ⟨t17_, e3, h⟩ := dB_elim h
      exact (kvm_KV_Restore.B1_sound  k_ s_ t_ t17_ w h).weaken (Sub.cons (Sub.cons (Sub.cons (Sub.cons (Sub.nil _) e3) e2) e1) e0)) stops_nil) (Eq.mp (kvm_KV_Restore.B0_eq k s w   R (fun k_ s_ t_ t17_ w => kvm_KV_Restore.B1 k_ s_ t_ t17_ w  R)) h)
theorem kvm_KV_Restore.sound (k : Option Addr) (s : ByteArray) (w : World) (R : Int → World → Prop) (h : kvm_KV_Restore.B0 k s w R) : kvm_KV_Restore.Call k s w R := by
  have hc := calls_of_block (args := #[.pointer k, .string s]) Tryz.func138 (body := (Tryz.f138.body.getD .skip)) (by kernel_rfl) (by kernel_rfl) (args_slot _) (kvm_KV_Restore.B0_sound k s w h)
  exact hc.mono fun e w' he => by
    obtain ⟨v, rfl, hv⟩ := he
    exact kvm_KV_Restore.RV_elim hv
end Go.Proofs.Qxb6500430aGreat
