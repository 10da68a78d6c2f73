import Derived.Test.Qxb6500424aGreatSig
set_option maxRecDepth 100000
set_option linter.unusedVariables false
open Go.Vc
namespace Go.Proofs.Qxb6500424aGreat
def hostm_Net_Connected.B1 (n : Option Addr) (host : Int) (s : Nat) (t21 : Bool) (w : World)   (R : Bool → World → Prop) : Prop :=
  Bm t21 (
    R false w) (
    Pn n fun a =>
    LdL a w.drew fun x26_b x26_l x26_c =>
    LdI .i64 ⟨s, 0, none⟩ w.drew fun x30 =>
    LdI .i64 ⟨s, 2, none⟩ w.drew fun x33 =>
    LdI .i64 ⟨s, 3, none⟩ w.drew fun x36 =>
    LdI .i64 ⟨s, 4, none⟩ w.drew fun x39 =>
    New (.cells #[.int .i64 host, .int .i64 x30, .int .i64 x33, .int .i64 x36, .int .i64 x39, .bool true, .int .i64 (-1 : Int), .slice none 0 0, .slice none 0 0, .int .i64 (0 : Int), .int .i64 (1 : Int), .int .i64 (0 : Int), .bool false, .bool false, .bool false, .bool false] 83) w.drew fun b41 w1 =>
    w1.cell? a = some (.slice x26_b x26_l x26_c) ∧
    Append 83 (.agg #[.int .i64 (0 : Int), .int .i64 (0 : Int), .int .i64 (0 : Int), .int .i64 (0 : Int), .int .i64 (0 : Int), .bool false, .int .i64 (0 : Int), .slice none 0 0, .slice none 0 0, .int .i64 (0 : Int), .int .i64 (0 : Int), .int .i64 (0 : Int), .bool false, .bool false, .bool false, .bool false]) 16 136 x26_b x26_l x26_c (some ⟨b41, 0, none⟩) 1 w1 fun b42 c42 w2 =>
    Pn n fun a_1 =>
    Sts [.slice b42 (x26_l + 1) c42] a_1 0 w2 fun w3 =>
    R true w3)
theorem hostm_Net_Connected.B1_eq (n : Option Addr) (host : Int) (s : Nat) (t21 : Bool) (w : World)   (R : Bool → World → Prop)  :
    (
  Bm t21 (
    R false w) (
    Pn n fun a =>
    LdL a w.drew fun x26_b x26_l x26_c =>
    LdI .i64 ⟨s, 0, none⟩ w.drew fun x30 =>
    LdI .i64 ⟨s, 2, none⟩ w.drew fun x33 =>
    LdI .i64 ⟨s, 3, none⟩ w.drew fun x36 =>
    LdI .i64 ⟨s, 4, none⟩ w.drew fun x39 =>
    New (.cells #[.int .i64 host, .int .i64 x30, .int .i64 x33, .int .i64 x36, .int .i64 x39, .bool true, .int .i64 (-1 : Int), .slice none 0 0, .slice none 0 0, .int .i64 (0 : Int), .int .i64 (1 : Int), .int .i64 (0 : Int), .bool false, .bool false, .bool false, .bool false] 83) w.drew fun b41 w1 =>
    w1.cell? a = some (.slice x26_b x26_l x26_c) ∧
    Append 83 (.agg #[.int .i64 (0 : Int), .int .i64 (0 : Int), .int .i64 (0 : Int), .int .i64 (0 : Int), .int .i64 (0 : Int), .bool false, .int .i64 (0 : Int), .slice none 0 0, .slice none 0 0, .int .i64 (0 : Int), .int .i64 (0 : Int), .int .i64 (0 : Int), .bool false, .bool false, .bool false, .bool false]) 16 136 x26_b x26_l x26_c (some ⟨b41, 0, none⟩) 1 w1 fun b42 c42 w2 =>
    Pn n fun a_1 =>
    Sts [.slice b42 (x26_l + 1) c42] a_1 0 w2 fun w3 =>
    R true w3)) = kstep Tryz.prog 45 Tryz.f90.results.toList (Tryz.f90.body.getD .skip) (hostm_Net_Connected.RV R) (kvc Tryz.prog 45 Tryz.f90.results.toList (Tryz.f90.body.getD .skip) (hostm_Net_Connected.RV R) [] 2000) [(0, [1, 0, 1]), (0, [1, 1])] [(0, .pointer n), (1, .int .i64 host), (5, .pointer (some ⟨s, 0, none⟩)), (21, .bool t21)] w := by kernel_rfl
theorem hostm_Net_Connected.B1_sound {R : Bool → World → Prop}  (n : Option Addr) (host : Int) (s : Nat) (t21 : Bool) (w : World) (h : hostm_Net_Connected.B1 n host s t21 w   R) :
    KW Tryz.prog 90 45 (hostm_Net_Connected.RV R) ([(0, [1, 0, 1]), (0, [1, 1])].map (toItem (Tryz.f90.body.getD .skip))) [(0, .pointer n), (1, .int .i64 host), (5, .pointer (some ⟨s, 0, none⟩)), (21, .bool t21)] w := by
  exact block_spec Tryz.func90 Tryz.mixed stops_nil (Eq.mp (hostm_Net_Connected.B1_eq n host s t21 w   R ) h)
def hostm_Net_Connected.B0 (n : Option Addr) (host s_0 s_1 s_2 s_3 s_4 s_5 s_6 : Int) (s_7 : Bool) (s_8 : Option Addr) (w : World)   (R : Bool → World → Prop) : Prop :=
  New (.cells #[.int .i64 s_0, .int .i64 s_1, .int .i64 s_2, .int .i64 s_3, .int .i64 s_4, .int .i64 s_5, .int .i64 s_6, .bool s_7, .pointer s_8] 69) w fun s_ w1 =>
  LdI .i64 ⟨s_, 0, none⟩ w1 fun x11 =>
  hostm_Net_Find.Call n host x11 w1 fun r12 w2 =>
  Bm (decide (r12 ≥ (0 : Int))) (
    hostm_Net_Connected.B1 n host s_ true w2  R) (
    LdP ⟨s_, 8, none⟩ w2 fun x16 =>
    Pn x16 fun a =>
    LdI .i64 a w2 fun x19 =>
    hostm_Net_Connected.B1 n host s_ (x19 != (1 : Int)) w2  R)
theorem hostm_Net_Connected.B0_eq (n : Option Addr) (host s_0 s_1 s_2 s_3 s_4 s_5 s_6 : Int) (s_7 : Bool) (s_8 : Option Addr) (w : World)   (R : Bool → World → Prop) (sB1 : Option Addr → Int → Nat → Bool → World → Prop) :
    (
  New (.cells #[.int .i64 s_0, .int .i64 s_1, .int .i64 s_2, .int .i64 s_3, .int .i64 s_4, .int .i64 s_5, .int .i64 s_6, .bool s_7, .pointer s_8] 69) w fun s_ w1 =>
  LdI .i64 ⟨s_, 0, none⟩ w1 fun x11 =>
  hostm_Net_Find.Call n host x11 w1 fun r12 w2 =>
  Bm (decide (r12 ≥ (0 : Int))) (
    sB1 n host s_ true w2) (
    LdP ⟨s_, 8, none⟩ w2 fun x16 =>
    Pn x16 fun a =>
    LdI .i64 a w2 fun x19 =>
    sB1 n host s_ (x19 != (1 : Int)) w2)) = kstep Tryz.prog 45 Tryz.f90.results.toList (Tryz.f90.body.getD .skip) (hostm_Net_Connected.RV R) (kvc Tryz.prog 45 Tryz.f90.results.toList (Tryz.f90.body.getD .skip) (hostm_Net_Connected.RV R) [([(0, [1, 0, 1]), (0, [1, 1])], fun σ w => dP (slotOf σ 0) fun n_ => dI .i64 (slotOf σ 1) fun host_ => dK (slotOf σ 5) fun s_ => dB (slotOf σ 21) fun t21_ => sB1 n_ host_ s_ t21_ w)] 2000) [(0, [])] [(0, .pointer n), (1, .int .i64 host), (2, .agg #[.int .i64 s_0, .int .i64 s_1, .int .i64 s_2, .int .i64 s_3, .int .i64 s_4, .int .i64 s_5, .int .i64 s_6, .bool s_7, .pointer s_8])] w := by kernel_rfl
theorem hostm_Net_Connected.B0_sound {R : Bool → World → Prop}  (n : Option Addr) (host s_0 s_1 s_2 s_3 s_4 s_5 s_6 : Int) (s_7 : Bool) (s_8 : Option Addr) (w : World) (h : hostm_Net_Connected.B0 n host s_0 s_1 s_2 s_3 s_4 s_5 s_6 s_7 s_8 w   R) :
    KW Tryz.prog 90 45 (hostm_Net_Connected.RV R) ([(0, [])].map (toItem (Tryz.f90.body.getD .skip))) [(0, .pointer n), (1, .int .i64 host), (2, .agg #[.int .i64 s_0, .int .i64 s_1, .int .i64 s_2, .int .i64 s_3, .int .i64 s_4, .int .i64 s_5, .int .i64 s_6, .bool s_7, .pointer s_8])] w := by
  exact block_spec Tryz.func90 Tryz.mixed (stops_cons (fun σ w h => by
      obtain ⟨n_, e0, h⟩ := dP_elim h
      obtain ⟨host_, e1, h⟩ := dI_elim h
      obtain ⟨s_, e2, h⟩ := dK_elim h
      obtain ⟨t21_, e3, h⟩ := dB_elim h
      exact (hostm_Net_Connected.B1_sound  n_ host_ s_ t21_ w h).weaken (Sub.cons (Sub.cons (Sub.cons (Sub.cons (Sub.nil _) e3) e2) e1) e0)) stops_nil) (Eq.mp (hostm_Net_Connected.B0_eq n host s_0 s_1 s_2 s_3 s_4 s_5 s_6 s_7 s_8 w   R (fun n_ host_ s_ t21_ w => hostm_Net_Connected.B1 n_ host_ s_ t21_ w  R)) h)
theorem hostm_Net_Connected.sound (n : Option Addr) (host s_0 s_1 s_2 s_3 s_4 s_5 s_6 : Int) (s_7 : Bool) (s_8 : Option Addr) (w : World) (R : Bool → World → Prop) (h : hostm_Net_Connected.B0 n host s_0 s_1 s_2 s_3 s_4 s_5 s_6 s_7 s_8 w R) : hostm_Net_Connected.Call n host s_0 s_1 s_2 s_3 s_4 s_5 s_6 s_7 s_8 w R := by
  have hc := calls_of_block (args := #[.pointer n, .int .i64 host, .agg #[.int .i64 s_0, .int .i64 s_1, .int .i64 s_2, .int .i64 s_3, .int .i64 s_4, .int .i64 s_5, .int .i64 s_6, .bool s_7, .pointer s_8]]) Tryz.func90 (body := (Tryz.f90.body.getD .skip)) (by kernel_rfl) (by kernel_rfl) (args_slot _) (hostm_Net_Connected.B0_sound n host s_0 s_1 s_2 s_3 s_4 s_5 s_6 s_7 s_8 w h)
  exact hc.mono fun e w' he => by
    obtain ⟨v, rfl, hv⟩ := he
    exact hostm_Net_Connected.RV_elim hv
def hostlaw_World_isListener.B0 (w0 : Option Addr) (c sd : Int) (w : World)   (R : Bool → World → Prop) : Prop :=
  Pn w0 fun a =>
  (0 ≤ c ∧ c < ((3 : Nat) : Int)) ∧
  LdP (Addr.add a (c.toNat * 1)) w fun x15 =>
  host_Host_Info.Call x15 sd w fun r17_0_0 r17_0_1 r17_0_2 r17_0_3 r17_0_4 r17_0_5 r17_0_6 r17_0_7 r17_0_8 r17_1 w1 =>
  New (.cells #[.int .i64 (0 : Int), .int .i64 (0 : Int), .int .i64 (0 : Int), .int .i64 (0 : Int), .int .i64 (0 : Int), .int .i64 (0 : Int), .int .i64 (0 : Int), .bool false, .pointer none] 69) w1 fun s_ w2 =>
  Sts [.int .i64 r17_0_0, .int .i64 r17_0_1, .int .i64 r17_0_2, .int .i64 r17_0_3, .int .i64 r17_0_4, .int .i64 r17_0_5, .int .i64 r17_0_6, .bool r17_0_7, .pointer r17_0_8] ⟨s_, 0, none⟩ 0 w2 fun w3 =>
  Bm (r17_1 == (0 : Int)) (
    LdI .i64 ⟨s_, 1, none⟩ w3 fun x25 =>
    R (x25 == (1 : Int)) w3) (
    R false w3)
theorem hostlaw_World_isListener.B0_eq (w0 : Option Addr) (c sd : Int) (w : World)   (R : Bool → World → Prop)  :
    (
  Pn w0 fun a =>
  (0 ≤ c ∧ c < ((3 : Nat) : Int)) ∧
  LdP (Addr.add a (c.toNat * 1)) w fun x15 =>
  host_Host_Info.Call x15 sd w fun r17_0_0 r17_0_1 r17_0_2 r17_0_3 r17_0_4 r17_0_5 r17_0_6 r17_0_7 r17_0_8 r17_1 w1 =>
  New (.cells #[.int .i64 (0 : Int), .int .i64 (0 : Int), .int .i64 (0 : Int), .int .i64 (0 : Int), .int .i64 (0 : Int), .int .i64 (0 : Int), .int .i64 (0 : Int), .bool false, .pointer none] 69) w1 fun s_ w2 =>
  Sts [.int .i64 r17_0_0, .int .i64 r17_0_1, .int .i64 r17_0_2, .int .i64 r17_0_3, .int .i64 r17_0_4, .int .i64 r17_0_5, .int .i64 r17_0_6, .bool r17_0_7, .pointer r17_0_8] ⟨s_, 0, none⟩ 0 w2 fun w3 =>
  Bm (r17_1 == (0 : Int)) (
    LdI .i64 ⟨s_, 1, none⟩ w3 fun x25 =>
    R (x25 == (1 : Int)) w3) (
    R false w3)) = kstep Tryz.prog 28 Tryz.f91.results.toList (Tryz.f91.body.getD .skip) (hostlaw_World_isListener.RV R) (kvc Tryz.prog 28 Tryz.f91.results.toList (Tryz.f91.body.getD .skip) (hostlaw_World_isListener.RV R) [] 2000) [(0, [])] [(0, .pointer w0), (1, .int .i64 c), (2, .int .i64 sd)] w := by kernel_rfl
theorem hostlaw_World_isListener.B0_sound {R : Bool → World → Prop}  (w0 : Option Addr) (c sd : Int) (w : World) (h : hostlaw_World_isListener.B0 w0 c sd w   R) :
    KW Tryz.prog 91 28 (hostlaw_World_isListener.RV R) ([(0, [])].map (toItem (Tryz.f91.body.getD .skip))) [(0, .pointer w0), (1, .int .i64 c), (2, .int .i64 sd)] w := by
  exact block_spec Tryz.func91 Tryz.mixed stops_nil (Eq.mp (hostlaw_World_isListener.B0_eq w0 c sd w   R ) h)
theorem hostlaw_World_isListener.sound (w0 : Option Addr) (c sd : Int) (w : World) (R : Bool → World → Prop) (h : hostlaw_World_isListener.B0 w0 c sd w R) : hostlaw_World_isListener.Call w0 c sd w R := by
  have hc := calls_of_block (args := #[.pointer w0, .int .i64 c, .int .i64 sd]) Tryz.func91 (body := (Tryz.f91.body.getD .skip)) (by kernel_rfl) (by kernel_rfl) (args_slot _) (hostlaw_World_isListener.B0_sound w0 c sd w h)
  exact hc.mono fun e w' he => by
    obtain ⟨v, rfl, hv⟩ := he
    exact hostlaw_World_isListener.RV_elim hv
def host_Host_Accept.B0 (h0 : Option Addr) (lsd : Int) (w : World)   (R : Int → Int → World → Prop) : Prop :=
  Pn h0 fun a =>
  LdP (a.add 17) w fun x9 =>
  sock_Table_Accept.Call x9 lsd w fun r11_0 r11_1 w1 =>
  R r11_0 r11_1 w1
theorem host_Host_Accept.B0_eq (h0 : Option Addr) (lsd : Int) (w : World)   (R : Int → Int → World → Prop)  :
    (
  Pn h0 fun a =>
  LdP (a.add 17) w fun x9 =>
  sock_Table_Accept.Call x9 lsd w fun r11_0 r11_1 w1 =>
  R r11_0 r11_1 w1) = kstep Tryz.prog 14 Tryz.f92.results.toList (Tryz.f92.body.getD .skip) (host_Host_Accept.RV R) (kvc Tryz.prog 14 Tryz.f92.results.toList (Tryz.f92.body.getD .skip) (host_Host_Accept.RV R) [] 2000) [(0, [])] [(0, .pointer h0), (1, .int .i64 lsd)] w := by kernel_rfl
theorem host_Host_Accept.B0_sound {R : Int → Int → World → Prop}  (h0 : Option Addr) (lsd : Int) (w : World) (h : host_Host_Accept.B0 h0 lsd w   R) :
    KW Tryz.prog 92 14 (host_Host_Accept.RV R) ([(0, [])].map (toItem (Tryz.f92.body.getD .skip))) [(0, .pointer h0), (1, .int .i64 lsd)] w := by
  exact block_spec Tryz.func92 Tryz.mixed stops_nil (Eq.mp (host_Host_Accept.B0_eq h0 lsd w   R ) h)
theorem host_Host_Accept.sound (h0 : Option Addr) (lsd : Int) (w : World) (R : Int → Int → World → Prop) (h : host_Host_Accept.B0 h0 lsd w R) : host_Host_Accept.Call h0 lsd w R := by
  have hc := calls_of_block (args := #[.pointer h0, .int .i64 lsd]) Tryz.func92 (body := (Tryz.f92.body.getD .skip)) (by kernel_rfl) (by kernel_rfl) (args_slot _) (host_Host_Accept.B0_sound h0 lsd w h)
  exact hc.mono fun e w' he => by
    obtain ⟨v, rfl, hv⟩ := he
    exact host_Host_Accept.RV_elim hv
def hostm_WantSend.B1 (c : Option Addr) (n t9 : Int) (t10 : Bool) (w : World)   (R : Int → Int → World → Prop) : Prop :=
  Bm t10 (
    R (0 : Int) (14 : Int) w) (
    Bm (t9 == (4 : Int)) (
      hostm_ended.Call c w fun r16 w1 =>
      R (0 : Int) r16 w1) (
      Pn c fun a =>
      LdB (a.add 2) w fun x20 =>
      Bm x20 (
        R (0 : Int) (15 : Int) w) (
        Pn c fun a_1 =>
        LdI .i64 (a_1.add 9) w fun x25 =>
        Bm (decide (n > (IntKind.i64.wrap ((16 : Int) - x25)))) (
          Pn c fun a_2 =>
          LdI .i64 (a_2.add 9) w fun x31 =>
          Bm ((IntKind.i64.wrap ((16 : Int) - x31)) == (0 : Int)) (
            R (0 : Int) (14 : Int) w) (
            R (IntKind.i64.wrap ((16 : Int) - x31)) (0 : Int) w)) (
          R n (0 : Int) w))))
theorem hostm_WantSend.B1_eq (c : Option Addr) (n t9 : Int) (t10 : Bool) (w : World)   (R : Int → Int → World → Prop)  :
    (
  Bm t10 (
    R (0 : Int) (14 : Int) w) (
    Bm (t9 == (4 : Int)) (
      hostm_ended.Call c w fun r16 w1 =>
      R (0 : Int) r16 w1) (
      Pn c fun a =>
      LdB (a.add 2) w fun x20 =>
      Bm x20 (
        R (0 : Int) (15 : Int) w) (
        Pn c fun a_1 =>
        LdI .i64 (a_1.add 9) w fun x25 =>
        Bm (decide (n > (IntKind.i64.wrap ((16 : Int) - x25)))) (
          Pn c fun a_2 =>
          LdI .i64 (a_2.add 9) w fun x31 =>
          Bm ((IntKind.i64.wrap ((16 : Int) - x31)) == (0 : Int)) (
            R (0 : Int) (14 : Int) w) (
            R (IntKind.i64.wrap ((16 : Int) - x31)) (0 : Int) w)) (
          R n (0 : Int) w))))) = kstep Tryz.prog 36 Tryz.f93.results.toList (Tryz.f93.body.getD .skip) (hostm_WantSend.RV R) (kvc Tryz.prog 36 Tryz.f93.results.toList (Tryz.f93.body.getD .skip) (hostm_WantSend.RV R) [] 2000) [(0, [1, 0, 1, 0, 1]), (1, [0]), (0, [1, 1])] [(0, .pointer c), (1, .int .i64 n), (9, .int .i64 t9), (10, .bool t10)] w := by kernel_rfl
theorem hostm_WantSend.B1_sound {R : Int → Int → World → Prop}  (c : Option Addr) (n t9 : Int) (t10 : Bool) (w : World) (h : hostm_WantSend.B1 c n t9 t10 w   R) :
    KW Tryz.prog 93 36 (hostm_WantSend.RV R) ([(0, [1, 0, 1, 0, 1]), (1, [0]), (0, [1, 1])].map (toItem (Tryz.f93.body.getD .skip))) [(0, .pointer c), (1, .int .i64 n), (9, .int .i64 t9), (10, .bool t10)] w := by
  exact block_spec Tryz.func93 Tryz.mixed stops_nil (Eq.mp (hostm_WantSend.B1_eq c n t9 t10 w   R ) h)
def hostm_WantSend.B0 (c : Option Addr) (n : Int) (w : World)   (R : Int → Int → World → Prop) : Prop :=
  Pn c fun a =>
  LdI .i64 a w fun x9 =>
  Bm (x9 == (1 : Int)) (
    hostm_WantSend.B1 c n x9 (x9 == (1 : Int)) w  R) (
    hostm_WantSend.B1 c n x9 (x9 == (2 : Int)) w  R)
theorem hostm_WantSend.B0_eq (c : Option Addr) (n : Int) (w : World)   (R : Int → Int → World → Prop) (sB1 : Option Addr → Int → Int → Bool → World → Prop) :
    (
  Pn c fun a =>
  LdI .i64 a w fun x9 =>
  Bm (x9 == (1 : Int)) (
    sB1 c n x9 (x9 == (1 : Int)) w) (
    sB1 c n x9 (x9 == (2 : Int)) w)) = kstep Tryz.prog 36 Tryz.f93.results.toList (Tryz.f93.body.getD .skip) (hostm_WantSend.RV R) (kvc Tryz.prog 36 Tryz.f93.results.toList (Tryz.f93.body.getD .skip) (hostm_WantSend.RV R) [([(0, [1, 0, 1, 0, 1]), (1, [0]), (0, [1, 1])], fun σ w => dP (slotOf σ 0) fun c_ => dI .i64 (slotOf σ 1) fun n_ => dI .i64 (slotOf σ 9) fun t9_ => dB (slotOf σ 10) fun t10_ => sB1 c_ n_ t9_ t10_ w)] 2000) [(0, [])] [(0, .pointer c), (1, .int .i64 n)] w := by kernel_rfl
theorem hostm_WantSend.B0_sound {R : Int → Int → World → Prop}  (c : Option Addr) (n : Int) (w : World) (h : hostm_WantSend.B0 c n w   R) :
    KW Tryz.prog 93 36 (hostm_WantSend.RV R) ([(0, [])].map (toItem (Tryz.f93.body.getD .skip))) [(0, .pointer c), (1, .int .i64 n)] w := by
  exact block_spec Tryz.func93 Tryz.mixed (stops_cons (fun σ w h => by
      obtain ⟨c_, e0, h⟩ := dP_elim h
      obtain ⟨n_, e1, h⟩ := dI_elim h
      obtain ⟨t9_, e2, h⟩ := dI_elim h
      obtain ⟨t10_, e3, h⟩ := dB_elim h
      exact (hostm_WantSend.B1_sound  c_ n_ t9_ t10_ w h).weaken (Sub.cons (Sub.cons (Sub.cons (Sub.cons (Sub.nil _) e3) e2) e1) e0)) stops_nil) (Eq.mp (hostm_WantSend.B0_eq c n w   R (fun c_ n_ t9_ t10_ w => hostm_WantSend.B1 c_ n_ t9_ t10_ w  R)) h)
theorem hostm_WantSend.sound (c : Option Addr) (n : Int) (w : World) (R : Int → Int → World → Prop) (h : hostm_WantSend.B0 c n w R) : hostm_WantSend.Call c n w R := by
  have hc := calls_of_block (args := #[.pointer c, .int .i64 n]) Tryz.func93 (body := (Tryz.f93.body.getD .skip)) (by kernel_rfl) (by kernel_rfl) (args_slot _) (hostm_WantSend.B0_sound c n w h)
  exact hc.mono fun e w' he => by
    obtain ⟨v, rfl, hv⟩ := he
    exact hostm_WantSend.RV_elim hv
def host_Host_Send.B0 (h0 : Option Addr) (sd : Int) (p_b : Option Addr) (p_l p_c : Nat) (w : World)   (R : Int → Option Addr → Nat → Nat → Int → World → Prop) : Prop :=
  host_Host_ours.Call h0 sd w fun r18_0_0 r18_0_1 r18_0_2 r18_0_3 r18_0_4 r18_0_5 r18_0_6 r18_0_7 r18_1 w1 =>
  New (.cells #[.int .i64 (0 : Int), .int .i64 (0 : Int), .int .i64 (0 : Int), .int .i64 (0 : Int), .int .i64 (0 : Int), .int .i64 (0 : Int), .int .i64 (0 : Int), .bool false] 66) w1 fun en_ w2 =>
  Sts [.int .i64 r18_0_0, .int .i64 r18_0_1, .int .i64 r18_0_2, .int .i64 r18_0_3, .int .i64 r18_0_4, .int .i64 r18_0_5, .int .i64 r18_0_6, .bool r18_0_7] ⟨en_, 0, none⟩ 0 w2 fun w3 =>
  Bm (!r18_1) (
    R (0 : Int) none 0 0 (21 : Int) w3) (
    LdI .i64 ⟨en_, 5, none⟩ w3.drew fun x26 =>
    Pn h0 fun a =>
    (0 ≤ x26 ∧ x26 < ((4 : Nat) : Int)) ∧
    LdP (Addr.add (a.add 13) (x26.toNat * 1)) w3.drew fun x30 =>
    conn_Conn_Send.Call x30 p_b p_l p_c w3.drew fun r32_0 r32_1_b r32_1_l r32_1_c r32_2 w4 =>
    Bm (r32_2 != (0 : Int)) (
      R (0 : Int) none 0 0 r32_2 w4) (
      New (.cells #[] 81) w4 fun b40 w5 =>
      LdI .i64 ⟨en_, 0, none⟩ w5 fun x41_0 =>
      LdI .i64 ⟨en_, 1, none⟩ w5 fun x41_1 =>
      LdI .i64 ⟨en_, 2, none⟩ w5 fun x41_2 =>
      LdI .i64 ⟨en_, 3, none⟩ w5 fun x41_3 =>
      LdI .i64 ⟨en_, 4, none⟩ w5 fun x41_4 =>
      LdI .i64 ⟨en_, 5, none⟩ w5 fun x41_5 =>
      LdI .i64 ⟨en_, 6, none⟩ w5 fun x41_6 =>
      LdB ⟨en_, 7, none⟩ w5 fun x41_7 =>
      host_Host_emit.Call h0 (some ⟨b40, 0, none⟩) 0 0 x41_0 x41_1 x41_2 x41_3 x41_4 x41_5 x41_6 x41_7 r32_1_b r32_1_l r32_1_c w5 fun r43_b r43_l r43_c w6 =>
      R r32_0 r43_b r43_l r43_c (0 : Int) w6))
theorem host_Host_Send.B0_eq (h0 : Option Addr) (sd : Int) (p_b : Option Addr) (p_l p_c : Nat) (w : World)   (R : Int → Option Addr → Nat → Nat → Int → World → Prop)  :
    (
  host_Host_ours.Call h0 sd w fun r18_0_0 r18_0_1 r18_0_2 r18_0_3 r18_0_4 r18_0_5 r18_0_6 r18_0_7 r18_1 w1 =>
  New (.cells #[.int .i64 (0 : Int), .int .i64 (0 : Int), .int .i64 (0 : Int), .int .i64 (0 : Int), .int .i64 (0 : Int), .int .i64 (0 : Int), .int .i64 (0 : Int), .bool false] 66) w1 fun en_ w2 =>
  Sts [.int .i64 r18_0_0, .int .i64 r18_0_1, .int .i64 r18_0_2, .int .i64 r18_0_3, .int .i64 r18_0_4, .int .i64 r18_0_5, .int .i64 r18_0_6, .bool r18_0_7] ⟨en_, 0, none⟩ 0 w2 fun w3 =>
  Bm (!r18_1) (
    R (0 : Int) none 0 0 (21 : Int) w3) (
    LdI .i64 ⟨en_, 5, none⟩ w3.drew fun x26 =>
    Pn h0 fun a =>
    (0 ≤ x26 ∧ x26 < ((4 : Nat) : Int)) ∧
    LdP (Addr.add (a.add 13) (x26.toNat * 1)) w3.drew fun x30 =>
    conn_Conn_Send.Call x30 p_b p_l p_c w3.drew fun r32_0 r32_1_b r32_1_l r32_1_c r32_2 w4 =>
    Bm (r32_2 != (0 : Int)) (
      R (0 : Int) none 0 0 r32_2 w4) (
      New (.cells #[] 81) w4 fun b40 w5 =>
      LdI .i64 ⟨en_, 0, none⟩ w5 fun x41_0 =>
      LdI .i64 ⟨en_, 1, none⟩ w5 fun x41_1 =>
      LdI .i64 ⟨en_, 2, none⟩ w5 fun x41_2 =>
      LdI .i64 ⟨en_, 3, none⟩ w5 fun x41_3 =>
      LdI .i64 ⟨en_, 4, none⟩ w5 fun x41_4 =>
      LdI .i64 ⟨en_, 5, none⟩ w5 fun x41_5 =>
      LdI .i64 ⟨en_, 6, none⟩ w5 fun x41_6 =>
      LdB ⟨en_, 7, none⟩ w5 fun x41_7 =>
      host_Host_emit.Call h0 (some ⟨b40, 0, none⟩) 0 0 x41_0 x41_1 x41_2 x41_3 x41_4 x41_5 x41_6 x41_7 r32_1_b r32_1_l r32_1_c w5 fun r43_b r43_l r43_c w6 =>
      R r32_0 r43_b r43_l r43_c (0 : Int) w6))) = kstep Tryz.prog 46 Tryz.f94.results.toList (Tryz.f94.body.getD .skip) (host_Host_Send.RV R) (kvc Tryz.prog 46 Tryz.f94.results.toList (Tryz.f94.body.getD .skip) (host_Host_Send.RV R) [] 2000) [(0, [])] [(0, .pointer h0), (1, .int .i64 sd), (2, .slice p_b p_l p_c)] w := by kernel_rfl
theorem host_Host_Send.B0_sound {R : Int → Option Addr → Nat → Nat → Int → World → Prop}  (h0 : Option Addr) (sd : Int) (p_b : Option Addr) (p_l p_c : Nat) (w : World) (h : host_Host_Send.B0 h0 sd p_b p_l p_c w   R) :
    KW Tryz.prog 94 46 (host_Host_Send.RV R) ([(0, [])].map (toItem (Tryz.f94.body.getD .skip))) [(0, .pointer h0), (1, .int .i64 sd), (2, .slice p_b p_l p_c)] w := by
  exact block_spec Tryz.func94 Tryz.mixed stops_nil (Eq.mp (host_Host_Send.B0_eq h0 sd p_b p_l p_c w   R ) h)
theorem host_Host_Send.sound (h0 : Option Addr) (sd : Int) (p_b : Option Addr) (p_l p_c : Nat) (w : World) (R : Int → Option Addr → Nat → Nat → Int → World → Prop) (h : host_Host_Send.B0 h0 sd p_b p_l p_c w R) : host_Host_Send.Call h0 sd p_b p_l p_c w R := by
  have hc := calls_of_block (args := #[.pointer h0, .int .i64 sd, .slice p_b p_l p_c]) Tryz.func94 (body := (Tryz.f94.body.getD .skip)) (by kernel_rfl) (by kernel_rfl) (args_slot _) (host_Host_Send.B0_sound h0 sd p_b p_l p_c w h)
  exact hc.mono fun e w' he => by
    obtain ⟨v, rfl, hv⟩ := he
    exact host_Host_Send.RV_elim hv
def hostm_Net_Took.B1 (n : Option Addr) (i k : Int) (data_b : Option Addr) (data_l data_c : Nat) (t43 : Bool) (w : World)   (R : Bool → World → Prop) : Prop :=
  Bm t43 (
    R false w) (
    Pn n fun a =>
    LdL a w.drew fun x47_b x47_l x47_c =>
    Pn n fun a_1 =>
    LdL a_1 w.drew fun x52_b x52_l x52_c =>
    Pn x52_b fun a_2 =>
    (0 ≤ i ∧ i < ((x52_l : Nat) : Int)) ∧
    LdL ((Addr.add a_2 (i.toNat * 16)).add 7) w.drew fun x56_b x56_l x56_c =>
    (0 ≤ k ∧ k ≤ ((data_c : Nat) : Int)) ∧
    api_CopyBytes.Call x56_b x56_l x56_c w.drew fun r57_b r57_l r57_c w1 =>
    w1.cell? a = some (.slice x47_b x47_l x47_c) ∧
    Append 5 (.int .u8 (0 : Int)) 1 1 r57_b r57_l r57_c (slBase data_b ((0 : Nat) : Int) ((data_c : Nat) : Int) 1) (k.toNat - ((0 : Nat) : Int).toNat) w1 fun b61 c61 w2 =>
    w2.cell? a = some (.slice x47_b x47_l x47_c) ∧
    Pn x47_b fun a_3 =>
    (0 ≤ i ∧ i < ((x47_l : Nat) : Int)) ∧
    Sts [.slice b61 (r57_l + (k.toNat - ((0 : Nat) : Int).toNat)) c61] ((Addr.add a_3 (i.toNat * 16)).add 7) 0 w2 fun w3 =>
    R true w3)
theorem hostm_Net_Took.B1_eq (n : Option Addr) (i k : Int) (data_b : Option Addr) (data_l data_c : Nat) (t43 : Bool) (w : World)   (R : Bool → World → Prop)  :
    (
  Bm t43 (
    R false w) (
    Pn n fun a =>
    LdL a w.drew fun x47_b x47_l x47_c =>
    Pn n fun a_1 =>
    LdL a_1 w.drew fun x52_b x52_l x52_c =>
    Pn x52_b fun a_2 =>
    (0 ≤ i ∧ i < ((x52_l : Nat) : Int)) ∧
    LdL ((Addr.add a_2 (i.toNat * 16)).add 7) w.drew fun x56_b x56_l x56_c =>
    (0 ≤ k ∧ k ≤ ((data_c : Nat) : Int)) ∧
    api_CopyBytes.Call x56_b x56_l x56_c w.drew fun r57_b r57_l r57_c w1 =>
    w1.cell? a = some (.slice x47_b x47_l x47_c) ∧
    Append 5 (.int .u8 (0 : Int)) 1 1 r57_b r57_l r57_c (slBase data_b ((0 : Nat) : Int) ((data_c : Nat) : Int) 1) (k.toNat - ((0 : Nat) : Int).toNat) w1 fun b61 c61 w2 =>
    w2.cell? a = some (.slice x47_b x47_l x47_c) ∧
    Pn x47_b fun a_3 =>
    (0 ≤ i ∧ i < ((x47_l : Nat) : Int)) ∧
    Sts [.slice b61 (r57_l + (k.toNat - ((0 : Nat) : Int).toNat)) c61] ((Addr.add a_3 (i.toNat * 16)).add 7) 0 w2 fun w3 =>
    R true w3)) = kstep Tryz.prog 64 Tryz.f95.results.toList (Tryz.f95.body.getD .skip) (hostm_Net_Took.RV R) (kvc Tryz.prog 64 Tryz.f95.results.toList (Tryz.f95.body.getD .skip) (hostm_Net_Took.RV R) [] 2000) [(0, [1, 0, 1]), (0, [1, 1])] [(0, .pointer n), (1, .int .i64 i), (2, .int .i64 k), (3, .slice data_b data_l data_c), (43, .bool t43)] w := by kernel_rfl
theorem hostm_Net_Took.B1_sound {R : Bool → World → Prop}  (n : Option Addr) (i k : Int) (data_b : Option Addr) (data_l data_c : Nat) (t43 : Bool) (w : World) (h : hostm_Net_Took.B1 n i k data_b data_l data_c t43 w   R) :
    KW Tryz.prog 95 64 (hostm_Net_Took.RV R) ([(0, [1, 0, 1]), (0, [1, 1])].map (toItem (Tryz.f95.body.getD .skip))) [(0, .pointer n), (1, .int .i64 i), (2, .int .i64 k), (3, .slice data_b data_l data_c), (43, .bool t43)] w := by
  exact block_spec Tryz.func95 Tryz.mixed stops_nil (Eq.mp (hostm_Net_Took.B1_eq n i k data_b data_l data_c t43 w   R ) h)
def hostm_Net_Took.B0 (n : Option Addr) (i k : Int) (data_b : Option Addr) (data_l data_c : Nat) (w : World)   (R : Bool → World → Prop) : Prop :=
  hostm_Net_has.Call n i w fun r11 w1 =>
  Bm (!r11) (
    hostm_Net_Took.B1 n i k data_b data_l data_c true w1  R) (
    Bm (decide (k < (0 : Int))) (
      hostm_Net_Took.B1 n i k data_b data_l data_c true w1  R) (
      Bm (decide (k > ((data_l : Nat) : Int))) (
        hostm_Net_Took.B1 n i k data_b data_l data_c true w1  R) (
        Pn n fun a =>
        LdL a w1 fun x27_b x27_l x27_c =>
        Pn x27_b fun a_1 =>
        (0 ≤ i ∧ i < ((x27_l : Nat) : Int)) ∧
        LdB ((Addr.add a_1 (i.toNat * 16)).add 12) w1 fun x31 =>
        Bm x31 (
          hostm_Net_Took.B1 n i k data_b data_l data_c true w1  R) (
          Pn n fun a_2 =>
          LdL a_2 w1 fun x37_b x37_l x37_c =>
          Pn x37_b fun a_3 =>
          (0 ≤ i ∧ i < ((x37_l : Nat) : Int)) ∧
          LdI .i64 ((Addr.add a_3 (i.toNat * 16)).add 10) w1 fun x41 =>
          hostm_Net_Took.B1 n i k data_b data_l data_c (x41 != (3 : Int)) w1  R))))
theorem hostm_Net_Took.B0_eq (n : Option Addr) (i k : Int) (data_b : Option Addr) (data_l data_c : Nat) (w : World)   (R : Bool → World → Prop) (sB1 : Option Addr → Int → Int → Option Addr → Nat → Nat → Bool → World → Prop) :
    (
  hostm_Net_has.Call n i w fun r11 w1 =>
  Bm (!r11) (
    sB1 n i k data_b data_l data_c true w1) (
    Bm (decide (k < (0 : Int))) (
      sB1 n i k data_b data_l data_c true w1) (
      Bm (decide (k > ((data_l : Nat) : Int))) (
        sB1 n i k data_b data_l data_c true w1) (
        Pn n fun a =>
        LdL a w1 fun x27_b x27_l x27_c =>
        Pn x27_b fun a_1 =>
        (0 ≤ i ∧ i < ((x27_l : Nat) : Int)) ∧
        LdB ((Addr.add a_1 (i.toNat * 16)).add 12) w1 fun x31 =>
        Bm x31 (
          sB1 n i k data_b data_l data_c true w1) (
          Pn n fun a_2 =>
          LdL a_2 w1 fun x37_b x37_l x37_c =>
          Pn x37_b fun a_3 =>
          (0 ≤ i ∧ i < ((x37_l : Nat) : Int)) ∧
          LdI .i64 ((Addr.add a_3 (i.toNat * 16)).add 10) w1 fun x41 =>
          sB1 n i k data_b data_l data_c (x41 != (3 : Int)) w1))))) = kstep Tryz.prog 64 Tryz.f95.results.toList (Tryz.f95.body.getD .skip) (hostm_Net_Took.RV R) (kvc Tryz.prog 64 Tryz.f95.results.toList (Tryz.f95.body.getD .skip) (hostm_Net_Took.RV R) [([(0, [1, 0, 1]), (0, [1, 1])], fun σ w => dP (slotOf σ 0) fun n_ => dI .i64 (slotOf σ 1) fun i_ => dI .i64 (slotOf σ 2) fun k_ => dL (slotOf σ 3) fun data_b_ data_l_ data_c_ => dB (slotOf σ 43) fun t43_ => sB1 n_ i_ k_ data_b_ data_l_ data_c_ t43_ w)] 2000) [(0, [])] [(0, .pointer n), (1, .int .i64 i), (2, .int .i64 k), (3, .slice data_b data_l data_c)] w := by kernel_rfl
theorem hostm_Net_Took.B0_sound {R : Bool → World → Prop}  (n : Option Addr) (i k : Int) (data_b : Option Addr) (data_l data_c : Nat) (w : World) (h : hostm_Net_Took.B0 n i k data_b data_l data_c w   R) :
    KW Tryz.prog 95 64 (hostm_Net_Took.RV R) ([(0, [])].map (toItem (Tryz.f95.body.getD .skip))) [(0, .pointer n), (1, .int .i64 i), (2, .int .i64 k), (3, .slice data_b data_l data_c)] w := by
  exact block_spec Tryz.func95 Tryz.mixed (stops_cons (fun σ w h => by
      obtain ⟨n_, e0, h⟩ := dP_elim h
      obtain ⟨i_, e1, h⟩ := dI_elim h
      obtain ⟨k_, e2, h⟩ := dI_elim h
      obtain ⟨data_b_, data_l_, data_c_, e3, h⟩ := dL_elim h
      obtain ⟨t43_, e4, h⟩ := dB_elim h
      exact (hostm_Net_Took.B1_sound  n_ i_ k_ data_b_ data_l_ data_c_ t43_ w h).weaken (Sub.cons (Sub.cons (Sub.cons (Sub.cons (Sub.cons (Sub.nil _) e4) e3) e2) e1) e0)) stops_nil) (Eq.mp (hostm_Net_Took.B0_eq n i k data_b data_l data_c w   R (fun n_ i_ k_ data_b_ data_l_ data_c_ t43_ w => hostm_Net_Took.B1 n_ i_ k_ data_b_ data_l_ data_c_ t43_ w  R)) h)
theorem hostm_Net_Took.sound (n : Option Addr) (i k : Int) (data_b : Option Addr) (data_l data_c : Nat) (w : World) (R : Bool → World → Prop) (h : hostm_Net_Took.B0 n i k data_b data_l data_c w R) : hostm_Net_Took.Call n i k data_b data_l data_c w R := by
  have hc := calls_of_block (args := #[.pointer n, .int .i64 i, .int .i64 k, .slice data_b data_l data_c]) Tryz.func95 (body := (Tryz.f95.body.getD .skip)) (by kernel_rfl) (by kernel_rfl) (args_slot _) (hostm_Net_Took.B0_sound n i k data_b data_l data_c w h)
  exact hc.mono fun e w' he => by
    obtain ⟨v, rfl, hv⟩ := he
    exact hostm_Net_Took.RV_elim hv
def hostm_WantRecv.B0 (c : Option Addr) (max : Int) (w : World)   (R : Int → Int → World → Prop) : Prop :=
  Bm (decide (max ≤ (0 : Int))) (
    R (0 : Int) (24 : Int) w) (
    Pn c fun a =>
    LdI .i64 (a.add 11) w fun x11 =>
    Bm (x11 == (0 : Int)) (
      Pn c fun a_1 =>
      LdB (a_1.add 5) w fun x16 =>
      Bm x16 (
        R (0 : Int) (16 : Int) w) (
        Pn c fun a_2 =>
        LdI .i64 a_2 w fun x20 =>
        Bm (x20 == (4 : Int)) (
          Pn c fun a_3 =>
          LdI .i64 (a_3.add 1) w.drew fun x25 =>
          R (0 : Int) x25 w.drew) (
          R (0 : Int) (14 : Int) w))) (
      Pn c fun a_4 =>
      LdI .i64 (a_4.add 11) w fun x30 =>
      Bm (decide (max > x30)) (
        Pn c fun a_5 =>
        LdI .i64 (a_5.add 11) w fun x35 =>
        R x35 (0 : Int) w) (
        R max (0 : Int) w)))
theorem hostm_WantRecv.B0_eq (c : Option Addr) (max : Int) (w : World)   (R : Int → Int → World → Prop)  :
    (
  Bm (decide (max ≤ (0 : Int))) (
    R (0 : Int) (24 : Int) w) (
    Pn c fun a =>
    LdI .i64 (a.add 11) w fun x11 =>
    Bm (x11 == (0 : Int)) (
      Pn c fun a_1 =>
      LdB (a_1.add 5) w fun x16 =>
      Bm x16 (
        R (0 : Int) (16 : Int) w) (
        Pn c fun a_2 =>
        LdI .i64 a_2 w fun x20 =>
        Bm (x20 == (4 : Int)) (
          Pn c fun a_3 =>
          LdI .i64 (a_3.add 1) w.drew fun x25 =>
          R (0 : Int) x25 w.drew) (
          R (0 : Int) (14 : Int) w))) (
      Pn c fun a_4 =>
      LdI .i64 (a_4.add 11) w fun x30 =>
      Bm (decide (max > x30)) (
        Pn c fun a_5 =>
        LdI .i64 (a_5.add 11) w fun x35 =>
        R x35 (0 : Int) w) (
        R max (0 : Int) w)))) = kstep Tryz.prog 37 Tryz.f96.results.toList (Tryz.f96.body.getD .skip) (hostm_WantRecv.RV R) (kvc Tryz.prog 37 Tryz.f96.results.toList (Tryz.f96.body.getD .skip) (hostm_WantRecv.RV R) [] 2000) [(0, [])] [(0, .pointer c), (1, .int .i64 max)] w := by kernel_rfl
theorem hostm_WantRecv.B0_sound {R : Int → Int → World → Prop}  (c : Option Addr) (max : Int) (w : World) (h : hostm_WantRecv.B0 c max w   R) :
    KW Tryz.prog 96 37 (hostm_WantRecv.RV R) ([(0, [])].map (toItem (Tryz.f96.body.getD .skip))) [(0, .pointer c), (1, .int .i64 max)] w := by
  exact block_spec Tryz.func96 Tryz.mixed stops_nil (Eq.mp (hostm_WantRecv.B0_eq c max w   R ) h)
theorem hostm_WantRecv.sound (c : Option Addr) (max : Int) (w : World) (R : Int → Int → World → Prop) (h : hostm_WantRecv.B0 c max w R) : hostm_WantRecv.Call c max w R := by
  have hc := calls_of_block (args := #[.pointer c, .int .i64 max]) Tryz.func96 (body := (Tryz.f96.body.getD .skip)) (by kernel_rfl) (by kernel_rfl) (args_slot _) (hostm_WantRecv.B0_sound c max w h)
  exact hc.mono fun e w' he => by
    obtain ⟨v, rfl, hv⟩ := he
    exact hostm_WantRecv.RV_elim hv
def host_Host_Recv.B0 (h0 : Option Addr) (sd max : Int) (w : World)   (R : Option Addr → Nat → Nat → Option Addr → Nat → Nat → Int → World → Prop) : Prop :=
  host_Host_ours.Call h0 sd w fun r18_0_0 r18_0_1 r18_0_2 r18_0_3 r18_0_4 r18_0_5 r18_0_6 r18_0_7 r18_1 w1 =>
  New (.cells #[.int .i64 (0 : Int), .int .i64 (0 : Int), .int .i64 (0 : Int), .int .i64 (0 : Int), .int .i64 (0 : Int), .int .i64 (0 : Int), .int .i64 (0 : Int), .bool false] 66) w1 fun en_ w2 =>
  Sts [.int .i64 r18_0_0, .int .i64 r18_0_1, .int .i64 r18_0_2, .int .i64 r18_0_3, .int .i64 r18_0_4, .int .i64 r18_0_5, .int .i64 r18_0_6, .bool r18_0_7] ⟨en_, 0, none⟩ 0 w2 fun w3 =>
  Bm (!r18_1) (
    R none 0 0 none 0 0 (21 : Int) w3) (
    LdI .i64 ⟨en_, 5, none⟩ w3.drew fun x26 =>
    Pn h0 fun a =>
    (0 ≤ x26 ∧ x26 < ((4 : Nat) : Int)) ∧
    LdP (Addr.add (a.add 13) (x26.toNat * 1)) w3.drew fun x30 =>
    conn_Conn_Recv.Call x30 max w3.drew fun r32_0_b r32_0_l r32_0_c r32_1_b r32_1_l r32_1_c r32_2 w4 =>
    Bm (r32_2 != (0 : Int)) (
      R none 0 0 none 0 0 r32_2 w4) (
      New (.cells #[] 81) w4 fun b40 w5 =>
      LdI .i64 ⟨en_, 0, none⟩ w5 fun x41_0 =>
      LdI .i64 ⟨en_, 1, none⟩ w5 fun x41_1 =>
      LdI .i64 ⟨en_, 2, none⟩ w5 fun x41_2 =>
      LdI .i64 ⟨en_, 3, none⟩ w5 fun x41_3 =>
      LdI .i64 ⟨en_, 4, none⟩ w5 fun x41_4 =>
      LdI .i64 ⟨en_, 5, none⟩ w5 fun x41_5 =>
      LdI .i64 ⟨en_, 6, none⟩ w5 fun x41_6 =>
      LdB ⟨en_, 7, none⟩ w5 fun x41_7 =>
      host_Host_emit.Call h0 (some ⟨b40, 0, none⟩) 0 0 x41_0 x41_1 x41_2 x41_3 x41_4 x41_5 x41_6 x41_7 r32_1_b r32_1_l r32_1_c w5 fun r43_b r43_l r43_c w6 =>
      R r32_0_b r32_0_l r32_0_c r43_b r43_l r43_c (0 : Int) w6))
theorem host_Host_Recv.B0_eq (h0 : Option Addr) (sd max : Int) (w : World)   (R : Option Addr → Nat → Nat → Option Addr → Nat → Nat → Int → World → Prop)  :
    (
  host_Host_ours.Call h0 sd w fun r18_0_0 r18_0_1 r18_0_2 r18_0_3 r18_0_4 r18_0_5 r18_0_6 r18_0_7 r18_1 w1 =>
  New (.cells #[.int .i64 (0 : Int), .int .i64 (0 : Int), .int .i64 (0 : Int), .int .i64 (0 : Int), .int .i64 (0 : Int), .int .i64 (0 : Int), .int .i64 (0 : Int), .bool false] 66) w1 fun en_ w2 =>
  Sts [.int .i64 r18_0_0, .int .i64 r18_0_1, .int .i64 r18_0_2, .int .i64 r18_0_3, .int .i64 r18_0_4, .int .i64 r18_0_5, .int .i64 r18_0_6, .bool r18_0_7] ⟨en_, 0, none⟩ 0 w2 fun w3 =>
  Bm (!r18_1) (
    R none 0 0 none 0 0 (21 : Int) w3) (
    LdI .i64 ⟨en_, 5, none⟩ w3.drew fun x26 =>
    Pn h0 fun a =>
    (0 ≤ x26 ∧ x26 < ((4 : Nat) : Int)) ∧
    LdP (Addr.add (a.add 13) (x26.toNat * 1)) w3.drew fun x30 =>
    conn_Conn_Recv.Call x30 max w3.drew fun r32_0_b r32_0_l r32_0_c r32_1_b r32_1_l r32_1_c r32_2 w4 =>
    Bm (r32_2 != (0 : Int)) (
      R none 0 0 none 0 0 r32_2 w4) (
      New (.cells #[] 81) w4 fun b40 w5 =>
      LdI .i64 ⟨en_, 0, none⟩ w5 fun x41_0 =>
      LdI .i64 ⟨en_, 1, none⟩ w5 fun x41_1 =>
      LdI .i64 ⟨en_, 2, none⟩ w5 fun x41_2 =>
      LdI .i64 ⟨en_, 3, none⟩ w5 fun x41_3 =>
      LdI .i64 ⟨en_, 4, none⟩ w5 fun x41_4 =>
      LdI .i64 ⟨en_, 5, none⟩ w5 fun x41_5 =>
      LdI .i64 ⟨en_, 6, none⟩ w5 fun x41_6 =>
      LdB ⟨en_, 7, none⟩ w5 fun x41_7 =>
      host_Host_emit.Call h0 (some ⟨b40, 0, none⟩) 0 0 x41_0 x41_1 x41_2 x41_3 x41_4 x41_5 x41_6 x41_7 r32_1_b r32_1_l r32_1_c w5 fun r43_b r43_l r43_c w6 =>
      R r32_0_b r32_0_l r32_0_c r43_b r43_l r43_c (0 : Int) w6))) = kstep Tryz.prog 46 Tryz.f97.results.toList (Tryz.f97.body.getD .skip) (host_Host_Recv.RV R) (kvc Tryz.prog 46 Tryz.f97.results.toList (Tryz.f97.body.getD .skip) (host_Host_Recv.RV R) [] 2000) [(0, [])] [(0, .pointer h0), (1, .int .i64 sd), (2, .int .i64 max)] w := by kernel_rfl
theorem host_Host_Recv.B0_sound {R : Option Addr → Nat → Nat → Option Addr → Nat → Nat → Int → World → Prop}  (h0 : Option Addr) (sd max : Int) (w : World) (h : host_Host_Recv.B0 h0 sd max w   R) :
    KW Tryz.prog 97 46 (host_Host_Recv.RV R) ([(0, [])].map (toItem (Tryz.f97.body.getD .skip))) [(0, .pointer h0), (1, .int .i64 sd), (2, .int .i64 max)] w := by
  exact block_spec Tryz.func97 Tryz.mixed stops_nil (Eq.mp (host_Host_Recv.B0_eq h0 sd max w   R ) h)
theorem host_Host_Recv.sound (h0 : Option Addr) (sd max : Int) (w : World) (R : Option Addr → Nat → Nat → Option Addr → Nat → Nat → Int → World → Prop) (h : host_Host_Recv.B0 h0 sd max w R) : host_Host_Recv.Call h0 sd max w R := by
  have hc := calls_of_block (args := #[.pointer h0, .int .i64 sd, .int .i64 max]) Tryz.func97 (body := (Tryz.f97.body.getD .skip)) (by kernel_rfl) (by kernel_rfl) (args_slot _) (host_Host_Recv.B0_sound h0 sd max w h)
  exact hc.mono fun e w' he => by
    obtain ⟨v, rfl, hv⟩ := he
    exact host_Host_Recv.RV_elim hv
def hostlaw_World_Own.L1b (w0 b_b : Option Addr) (b_l b_c : Nat) (j i : Int) (w : World)  (N1 : Option Addr → Option Addr → Nat → Nat → Int → Int → World → Prop) (R : World → Prop) : Prop :=
  Bm (decide (i < ((b_l : Nat) : Int))) (
    hostlaw_Stamp.Call j i w fun r28 w1 =>
    Pn b_b fun a =>
    (0 ≤ i ∧ i < ((b_l : Nat) : Int)) ∧
    Sts [.int .u8 r28] (Addr.add a (i.toNat * 1)) 0 w1 fun w2 =>
    N1 w0 b_b b_l b_c j (IntKind.i64.wrap (i + (1 : Int))) w2) (
    Pn w0 fun a_1 =>
    LdL (a_1.add 49) w fun x34_b x34_l x34_c =>
    New (.cells #[.slice b_b b_l b_c] 81) w fun b36 w3 =>
    Append 81 (.slice none 0 0) 1 24 x34_b x34_l x34_c (some ⟨b36, 0, none⟩) 1 w3 fun b37 c37 w4 =>
    Pn w0 fun a_2 =>
    Sts [.slice b37 (x34_l + 1) c37] (a_2.add 49) 0 w4 fun w5 =>
    R  w5)
theorem hostlaw_World_Own.L1b_eq (w0 b_b : Option Addr) (b_l b_c : Nat) (j i : Int) (w : World)  (N1 : Option Addr → Option Addr → Nat → Nat → Int → Int → World → Prop) (R : World → Prop)  :
    (
  Bm (decide (i < ((b_l : Nat) : Int))) (
    hostlaw_Stamp.Call j i w fun r28 w1 =>
    Pn b_b fun a =>
    (0 ≤ i ∧ i < ((b_l : Nat) : Int)) ∧
    Sts [.int .u8 r28] (Addr.add a (i.toNat * 1)) 0 w1 fun w2 =>
    N1 w0 b_b b_l b_c j (IntKind.i64.wrap (i + (1 : Int))) w2) (
    Pn w0 fun a_1 =>
    LdL (a_1.add 49) w fun x34_b x34_l x34_c =>
    New (.cells #[.slice b_b b_l b_c] 81) w fun b36 w3 =>
    Append 81 (.slice none 0 0) 1 24 x34_b x34_l x34_c (some ⟨b36, 0, none⟩) 1 w3 fun b37 c37 w4 =>
    Pn w0 fun a_2 =>
    Sts [.slice b37 (x34_l + 1) c37] (a_2.add 49) 0 w4 fun w5 =>
    R  w5)) = kstep Tryz.prog 40 Tryz.f98.results.toList (Tryz.f98.body.getD .skip) (hostlaw_World_Own.RV R) (kvc Tryz.prog 40 Tryz.f98.results.toList (Tryz.f98.body.getD .skip) (hostlaw_World_Own.RV R) [([(0, [1, 1, 1, 0, 1, 0, 0]), (2, [1, 1, 1, 0, 1, 0, 0]), (1, [0]), (0, [1, 1, 1, 1])], fun σ w => dP (slotOf σ 0) fun w0_ => dL (slotOf σ 1) fun b_b_ b_l_ b_c_ => dI .i64 (slotOf σ 4) fun j_ => dI .i64 (slotOf σ 5) fun i_ => N1 w0_ b_b_ b_l_ b_c_ j_ i_ w)] 2000) [(0, [1, 1, 1, 0, 1, 0, 0]), (2, [1, 1, 1, 0, 1, 0, 0]), (1, [0]), (0, [1, 1, 1, 1])] [(0, .pointer w0), (1, .slice b_b b_l b_c), (4, .int .i64 j), (5, .int .i64 i)] w := by kernel_rfl
theorem hostlaw_World_Own.L1b_sound {R : World → Prop} {N1 : Option Addr → Option Addr → Nat → Nat → Int → Int → World → Prop} (hN1 : ∀ w0 b_b b_l b_c j i w, N1 w0 b_b b_l b_c j i w → KW Tryz.prog 98 40 (hostlaw_World_Own.RV R) ([(0, [1, 1, 1, 0, 1, 0, 0]), (2, [1, 1, 1, 0, 1, 0, 0]), (1, [0]), (0, [1, 1, 1, 1])].map (toItem (Tryz.f98.body.getD .skip))) [(0, .pointer w0), (1, .slice b_b b_l b_c), (4, .int .i64 j), (5, .int .i64 i)] w) (w0 b_b : Option Addr) (b_l b_c : Nat) (j i : Int) (w : World) (h : hostlaw_World_Own.L1b w0 b_b b_l b_c j i w  N1 R) :
    KW Tryz.prog 98 40 (hostlaw_World_Own.RV R) ([(0, [1, 1, 1, 0, 1, 0, 0]), (2, [1, 1, 1, 0, 1, 0, 0]), (1, [0]), (0, [1, 1, 1, 1])].map (toItem (Tryz.f98.body.getD .skip))) [(0, .pointer w0), (1, .slice b_b b_l b_c), (4, .int .i64 j), (5, .int .i64 i)] w := by
  exact block_spec Tryz.func98 Tryz.mixed (stops_cons (fun σ w h => by
      obtain ⟨w0_, e0, h⟩ := dP_elim h
      obtain ⟨b_b_, b_l_, b_c_, e1, h⟩ := dL_elim h
      obtain ⟨j_, e2, h⟩ := dI_elim h
      obtain ⟨i_, e3, h⟩ := dI_elim h
      exact (hN1 w0_ b_b_ b_l_ b_c_ j_ i_ w h).weaken (Sub.cons (Sub.cons (Sub.cons (Sub.cons (Sub.nil _) e3) e2) e1) e0)) stops_nil) (Eq.mp (hostlaw_World_Own.L1b_eq w0 b_b b_l b_c j i w  N1 R ) h)
def hostlaw_World_Own.L1 (w0 b_b : Option Addr) (b_l b_c : Nat) (j i : Int) (w : World)  (R : World → Prop) : Prop :=
  ∃ (I : Nat → Option Addr → Option Addr → Nat → Nat → Int → Int → World → Prop) (m : Nat), I m w0 b_b b_l b_c j i w ∧ ∀ m w0 b_b b_l b_c j i w, I m w0 b_b b_l b_c j i w → hostlaw_World_Own.L1b w0 b_b b_l b_c j i w  (fun w0' b_b' b_l' b_c' j' i' w' => ∃ m', m' < m ∧ I m' w0' b_b' b_l' b_c' j' i' w') R
theorem hostlaw_World_Own.L1_sound {R : World → Prop}  (w0 b_b : Option Addr) (b_l b_c : Nat) (j i : Int) (w : World) (h : hostlaw_World_Own.L1 w0 b_b b_l b_c j i w  R) :
    KW Tryz.prog 98 40 (hostlaw_World_Own.RV R) ([(0, [1, 1, 1, 0, 1, 0, 0]), (2, [1, 1, 1, 0, 1, 0, 0]), (1, [0]), (0, [1, 1, 1, 1])].map (toItem (Tryz.f98.body.getD .skip))) [(0, .pointer w0), (1, .slice b_b b_l b_c), (4, .int .i64 j), (5, .int .i64 i)] w := by
  obtain ⟨I, m, hBase, hr⟩ := h
  refine KW.loop (fun m σ w => ∃ (w0 b_b : Option Addr) (b_l b_c : Nat) (j i : Int), σ = [(0, .pointer w0), (1, .slice b_b b_l b_c), (4, .int .i64 j), (5, .int .i64 i)] ∧ I m w0 b_b b_l b_c j i w) ?_ m _ w ⟨w0, b_b, b_l, b_c, j, i, rfl, hBase⟩
  rintro m ih σ w ⟨w0, b_b, b_l, b_c, j, i, rfl, hI⟩
  exact hostlaw_World_Own.L1b_sound  (N1 := fun w0' b_b' b_l' b_c' j' i' w' => ∃ m', m' < m ∧ I m' w0' b_b' b_l' b_c' j' i' w') (fun w0' b_b' b_l' b_c' j' i' w' hx => by obtain ⟨m', hlt, hI'⟩ := hx; exact ih m' hlt _ w' ⟨w0', b_b', b_l', b_c', j', i', rfl, hI'⟩) w0 b_b b_l b_c j i w (hr m w0 b_b b_l b_c j i w hI)
def hostlaw_World_Own.B0 (w0 b_b : Option Addr) (b_l b_c : Nat) (w : World)   (R : World → Prop) : Prop :=
  (0 ≤ ((b_c : Nat) : Int) ∧ ((b_c : Nat) : Int) ≤ ((b_c : Nat) : Int)) ∧
  Bm (((((b_c : Nat) : Int).toNat - ((0 : Nat) : Int).toNat : Nat) : Int) == (0 : Int)) (
    R  w) (
    Pn w0 fun a =>
    LdL (a.add 49) w fun x16_b x16_l x16_c =>
    hostlaw_World_Own.L1 w0 (slBase b_b ((0 : Nat) : Int) ((b_c : Nat) : Int) 1) (((b_c : Nat) : Int).toNat - ((0 : Nat) : Int).toNat) (((b_c : Nat) : Int).toNat - ((0 : Nat) : Int).toNat) ((x16_l : Nat) : Int) (0 : Int) w  R)
theorem hostlaw_World_Own.B0_eq (w0 b_b : Option Addr) (b_l b_c : Nat) (w : World)   (R : World → Prop) (sL1 : Option Addr → Option Addr → Nat → Nat → Int → Int → World → Prop) :
    (
  (0 ≤ ((b_c : Nat) : Int) ∧ ((b_c : Nat) : Int) ≤ ((b_c : Nat) : Int)) ∧
  Bm (((((b_c : Nat) : Int).toNat - ((0 : Nat) : Int).toNat : Nat) : Int) == (0 : Int)) (
    R  w) (
    Pn w0 fun a =>
    LdL (a.add 49) w fun x16_b x16_l x16_c =>
    sL1 w0 (slBase b_b ((0 : Nat) : Int) ((b_c : Nat) : Int) 1) (((b_c : Nat) : Int).toNat - ((0 : Nat) : Int).toNat) (((b_c : Nat) : Int).toNat - ((0 : Nat) : Int).toNat) ((x16_l : Nat) : Int) (0 : Int) w)) = kstep Tryz.prog 40 Tryz.f98.results.toList (Tryz.f98.body.getD .skip) (hostlaw_World_Own.RV R) (kvc Tryz.prog 40 Tryz.f98.results.toList (Tryz.f98.body.getD .skip) (hostlaw_World_Own.RV R) [([(0, [1, 1, 1, 0, 1, 0, 0]), (2, [1, 1, 1, 0, 1, 0, 0]), (1, [0]), (0, [1, 1, 1, 1])], fun σ w => dP (slotOf σ 0) fun w0_ => dL (slotOf σ 1) fun b_b_ b_l_ b_c_ => dI .i64 (slotOf σ 4) fun j_ => dI .i64 (slotOf σ 5) fun i_ => sL1 w0_ b_b_ b_l_ b_c_ j_ i_ w)] 2000) [(0, [])] [(0, .pointer w0), (1, .slice b_b b_l b_c)] w := by kernel_rfl
theorem hostlaw_World_Own.B0_sound {R : World → Prop}  (w0 b_b : Option Addr) (b_l b_c : Nat) (w : World) (h : hostlaw_World_Own.B0 w0 b_b b_l b_c w   R) :
    KW Tryz.prog 98 40 (hostlaw_World_Own.RV R) ([(0, [])].map (toItem (Tryz.f98.body.getD .skip))) [(0, .pointer w0), (1, .slice b_b b_l b_c)] w := by
  exact block_spec Tryz.func98 Tryz.mixed (stops_cons (fun σ w h => by
      obtain ⟨w0_, e0, h⟩ := dP_elim h
      obtain ⟨b_b_, b_l_, b_c_, e1, h⟩ := dL_elim h
      obtain ⟨j_, e2, h⟩ := dI_elim h
      obtain ⟨i_, e3, h⟩ := dI_elim h
      exact (hostlaw_World_Own.L1_sound  w0_ b_b_ b_l_ b_c_ j_ i_ w h).weaken (Sub.cons (Sub.cons (Sub.cons (Sub.cons (Sub.nil _) e3) e2) e1) e0)) stops_nil) (Eq.mp (hostlaw_World_Own.B0_eq w0 b_b b_l b_c w   R (fun w0_ b_b_ b_l_ b_c_ j_ i_ w => hostlaw_World_Own.L1 w0_ b_b_ b_l_ b_c_ j_ i_ w  R)) h)
theorem hostlaw_World_Own.sound (w0 b_b : Option Addr) (b_l b_c : Nat) (w : World) (R : World → Prop) (h : hostlaw_World_Own.B0 w0 b_b b_l b_c w R) : hostlaw_World_Own.Call w0 b_b b_l b_c w R := by
  have hc := calls_of_block (args := #[.pointer w0, .slice b_b b_l b_c]) Tryz.func98 (body := (Tryz.f98.body.getD .skip)) (by kernel_rfl) (by kernel_rfl) (args_slot _) (hostlaw_World_Own.B0_sound w0 b_b b_l b_c w h)
  exact hc.mono fun e w' he => by
    obtain ⟨v, rfl, hv⟩ := he
    exact hostlaw_World_Own.RV_elim hv
def hostm_Net_EOF.B0 (n : Option Addr) (i : Int) (w : World)   (R : Bool → World → Prop) : Prop :=
  hostm_Net_has.Call n i w fun r8 w1 =>
  Bm (!r8) (
    R false w1) (
    Pn n fun a =>
    LdL a w1 fun x13_b x13_l x13_c =>
    Pn x13_b fun a_1 =>
    (0 ≤ i ∧ i < ((x13_l : Nat) : Int)) ∧
    LdI .i64 ((Addr.add a_1 (i.toNat * 16)).add 6) w1 fun x17 =>
    Bm (decide (x17 ≥ (0 : Int))) (
      Pn n fun a_2 =>
      LdL a_2 w1.drew fun x24_b x24_l x24_c =>
      Pn x24_b fun a_3 =>
      (0 ≤ x17 ∧ x17 < ((x24_l : Nat) : Int)) ∧
      LdB ((Addr.add a_3 (x17.toNat * 16)).add 12) w1.drew fun x28 =>
      Bm x28 (
        Pn n fun a_4 =>
        LdL a_4 w1.drew fun x34_b x34_l x34_c =>
        Pn x34_b fun a_5 =>
        (0 ≤ i ∧ i < ((x34_l : Nat) : Int)) ∧
        LdL ((Addr.add a_5 (i.toNat * 16)).add 8) w1.drew fun x38_b x38_l x38_c =>
        Pn n fun a_6 =>
        LdL a_6 w1.drew fun x42_b x42_l x42_c =>
        Pn x42_b fun a_7 =>
        (0 ≤ x17 ∧ x17 < ((x42_l : Nat) : Int)) ∧
        LdL ((Addr.add a_7 (x17.toNat * 16)).add 7) w1.drew fun x46_b x46_l x46_c =>
        api_SameBytes.Call x38_b x38_l x38_c x46_b x46_l x46_c w1.drew fun r47 w2 =>
        R r47 w2) (
        R false w1.drew)) (
      R false w1.drew))
theorem hostm_Net_EOF.B0_eq (n : Option Addr) (i : Int) (w : World)   (R : Bool → World → Prop)  :
    (
  hostm_Net_has.Call n i w fun r8 w1 =>
  Bm (!r8) (
    R false w1) (
    Pn n fun a =>
    LdL a w1 fun x13_b x13_l x13_c =>
    Pn x13_b fun a_1 =>
    (0 ≤ i ∧ i < ((x13_l : Nat) : Int)) ∧
    LdI .i64 ((Addr.add a_1 (i.toNat * 16)).add 6) w1 fun x17 =>
    Bm (decide (x17 ≥ (0 : Int))) (
      Pn n fun a_2 =>
      LdL a_2 w1.drew fun x24_b x24_l x24_c =>
      Pn x24_b fun a_3 =>
      (0 ≤ x17 ∧ x17 < ((x24_l : Nat) : Int)) ∧
      LdB ((Addr.add a_3 (x17.toNat * 16)).add 12) w1.drew fun x28 =>
      Bm x28 (
        Pn n fun a_4 =>
        LdL a_4 w1.drew fun x34_b x34_l x34_c =>
        Pn x34_b fun a_5 =>
        (0 ≤ i ∧ i < ((x34_l : Nat) : Int)) ∧
        LdL ((Addr.add a_5 (i.toNat * 16)).add 8) w1.drew fun x38_b x38_l x38_c =>
        Pn n fun a_6 =>
        LdL a_6 w1.drew fun x42_b x42_l x42_c =>
        Pn x42_b fun a_7 =>
        (0 ≤ x17 ∧ x17 < ((x42_l : Nat) : Int)) ∧
        LdL ((Addr.add a_7 (x17.toNat * 16)).add 7) w1.drew fun x46_b x46_l x46_c =>
        api_SameBytes.Call x38_b x38_l x38_c x46_b x46_l x46_c w1.drew fun r47 w2 =>
        R r47 w2) (
        R false w1.drew)) (
      R false w1.drew))) = kstep Tryz.prog 49 Tryz.f99.results.toList (Tryz.f99.body.getD .skip) (hostm_Net_EOF.RV R) (kvc Tryz.prog 49 Tryz.f99.results.toList (Tryz.f99.body.getD .skip) (hostm_Net_EOF.RV R) [] 2000) [(0, [])] [(0, .pointer n), (1, .int .i64 i)] w := by kernel_rfl
theorem hostm_Net_EOF.B0_sound {R : Bool → World → Prop}  (n : Option Addr) (i : Int) (w : World) (h : hostm_Net_EOF.B0 n i w   R) :
    KW Tryz.prog 99 49 (hostm_Net_EOF.RV R) ([(0, [])].map (toItem (Tryz.f99.body.getD .skip))) [(0, .pointer n), (1, .int .i64 i)] w := by
  exact block_spec Tryz.func99 Tryz.mixed stops_nil (Eq.mp (hostm_Net_EOF.B0_eq n i w   R ) h)
theorem hostm_Net_EOF.sound (n : Option Addr) (i : Int) (w : World) (R : Bool → World → Prop) (h : hostm_Net_EOF.B0 n i w R) : hostm_Net_EOF.Call n i w R := by
  have hc := calls_of_block (args := #[.pointer n, .int .i64 i]) Tryz.func99 (body := (Tryz.f99.body.getD .skip)) (by kernel_rfl) (by kernel_rfl) (args_slot _) (hostm_Net_EOF.B0_sound n i w h)
  exact hc.mono fun e w' he => by
    obtain ⟨v, rfl, hv⟩ := he
    exact hostm_Net_EOF.RV_elim hv
def hostm_Net_Read.B0 (n : Option Addr) (i : Int) (got_b : Option Addr) (got_l got_c : Nat) (w : World)   (R : Bool → World → Prop) : Prop :=
  hostm_Net_has.Call n i w fun r9 w1 =>
  Bm (!r9) (
    R false w1) (
    Pn n fun a =>
    LdL a w1.drew fun x14_b x14_l x14_c =>
    Pn n fun a_1 =>
    LdL a_1 w1.drew fun x19_b x19_l x19_c =>
    Pn x19_b fun a_2 =>
    (0 ≤ i ∧ i < ((x19_l : Nat) : Int)) ∧
    LdL ((Addr.add a_2 (i.toNat * 16)).add 8) w1.drew fun x23_b x23_l x23_c =>
    api_CopyBytes.Call x23_b x23_l x23_c w1.drew fun r24_b r24_l r24_c w2 =>
    w2.cell? a = some (.slice x14_b x14_l x14_c) ∧
    Append 5 (.int .u8 (0 : Int)) 1 1 r24_b r24_l r24_c got_b got_l w2 fun b26 c26 w3 =>
    w3.cell? a = some (.slice x14_b x14_l x14_c) ∧
    Pn x14_b fun a_3 =>
    (0 ≤ i ∧ i < ((x14_l : Nat) : Int)) ∧
    Sts [.slice b26 (r24_l + got_l) c26] ((Addr.add a_3 (i.toNat * 16)).add 8) 0 w3 fun w4 =>
    Bm (decide (((got_l : Nat) : Int) > (0 : Int))) (
      Pn n fun a_4 =>
      LdL a_4 w4.drew fun x36_b x36_l x36_c =>
      Pn x36_b fun a_5 =>
      (0 ≤ i ∧ i < ((x36_l : Nat) : Int)) ∧
      LdI .i64 ((Addr.add a_5 (i.toNat * 16)).add 6) w4.drew fun x40 =>
      Bm (decide (x40 ≥ (0 : Int))) (
        Pn n fun a_6 =>
        LdL a_6 w4.drew fun x47_b x47_l x47_c =>
        Pn x47_b fun a_7 =>
        (0 ≤ i ∧ i < ((x47_l : Nat) : Int)) ∧
        LdL ((Addr.add a_7 (i.toNat * 16)).add 8) w4.drew fun x51_b x51_l x51_c =>
        Pn n fun a_8 =>
        LdL a_8 w4.drew fun x55_b x55_l x55_c =>
        Pn n fun a_9 =>
        LdL a_9 w4.drew fun x59_b x59_l x59_c =>
        Pn x59_b fun a_10 =>
        (0 ≤ i ∧ i < ((x59_l : Nat) : Int)) ∧
        LdI .i64 ((Addr.add a_10 (i.toNat * 16)).add 6) w4.drew fun x63 =>
        Pn x55_b fun a_11 =>
        (0 ≤ x63 ∧ x63 < ((x55_l : Nat) : Int)) ∧
        LdL ((Addr.add a_11 (x63.toNat * 16)).add 7) w4.drew fun x66_b x66_l x66_c =>
        api_IsPrefix.Call x51_b x51_l x51_c x66_b x66_l x66_c w4.drew fun r67 w5 =>
        R r67 w5) (
        R false w4.drew)) (
      R false w4.drew))
theorem hostm_Net_Read.B0_eq (n : Option Addr) (i : Int) (got_b : Option Addr) (got_l got_c : Nat) (w : World)   (R : Bool → World → Prop)  :
    (
  hostm_Net_has.Call n i w fun r9 w1 =>
  Bm (!r9) (
    R false w1) (
    Pn n fun a =>
    LdL a w1.drew fun x14_b x14_l x14_c =>
    Pn n fun a_1 =>
    LdL a_1 w1.drew fun x19_b x19_l x19_c =>
    Pn x19_b fun a_2 =>
    (0 ≤ i ∧ i < ((x19_l : Nat) : Int)) ∧
    LdL ((Addr.add a_2 (i.toNat * 16)).add 8) w1.drew fun x23_b x23_l x23_c =>
    api_CopyBytes.Call x23_b x23_l x23_c w1.drew fun r24_b r24_l r24_c w2 =>
    w2.cell? a = some (.slice x14_b x14_l x14_c) ∧
    Append 5 (.int .u8 (0 : Int)) 1 1 r24_b r24_l r24_c got_b got_l w2 fun b26 c26 w3 =>
    w3.cell? a = some (.slice x14_b x14_l x14_c) ∧
    Pn x14_b fun a_3 =>
    (0 ≤ i ∧ i < ((x14_l : Nat) : Int)) ∧
    Sts [.slice b26 (r24_l + got_l) c26] ((Addr.add a_3 (i.toNat * 16)).add 8) 0 w3 fun w4 =>
    Bm (decide (((got_l : Nat) : Int) > (0 : Int))) (
      Pn n fun a_4 =>
      LdL a_4 w4.drew fun x36_b x36_l x36_c =>
      Pn x36_b fun a_5 =>
      (0 ≤ i ∧ i < ((x36_l : Nat) : Int)) ∧
      LdI .i64 ((Addr.add a_5 (i.toNat * 16)).add 6) w4.drew fun x40 =>
      Bm (decide (x40 ≥ (0 : Int))) (
        Pn n fun a_6 =>
        LdL a_6 w4.drew fun x47_b x47_l x47_c =>
        Pn x47_b fun a_7 =>
        (0 ≤ i ∧ i < ((x47_l : Nat) : Int)) ∧
        LdL ((Addr.add a_7 (i.toNat * 16)).add 8) w4.drew fun x51_b x51_l x51_c =>
        Pn n fun a_8 =>
        LdL a_8 w4.drew fun x55_b x55_l x55_c =>
        Pn n fun a_9 =>
        LdL a_9 w4.drew fun x59_b x59_l x59_c =>
        Pn x59_b fun a_10 =>
        (0 ≤ i ∧ i < ((x59_l : Nat) : Int)) ∧
        LdI .i64 ((Addr.add a_10 (i.toNat * 16)).add 6) w4.drew fun x63 =>
        Pn x55_b fun a_11 =>
        (0 ≤ x63 ∧ x63 < ((x55_l : Nat) : Int)) ∧
        LdL ((Addr.add a_11 (x63.toNat * 16)).add 7) w4.drew fun x66_b x66_l x66_c =>
        api_IsPrefix.Call x51_b x51_l x51_c x66_b x66_l x66_c w4.drew fun r67 w5 =>
        R r67 w5) (
        R false w4.drew)) (
      R false w4.drew))) = kstep Tryz.prog 69 Tryz.f100.results.toList (Tryz.f100.body.getD .skip) (hostm_Net_Read.RV R) (kvc Tryz.prog 69 Tryz.f100.results.toList (Tryz.f100.body.getD .skip) (hostm_Net_Read.RV R) [] 2000) [(0, [])] [(0, .pointer n), (1, .int .i64 i), (2, .slice got_b got_l got_c)] w := by kernel_rfl
theorem hostm_Net_Read.B0_sound {R : Bool → World → Prop}  (n : Option Addr) (i : Int) (got_b : Option Addr) (got_l got_c : Nat) (w : World) (h : hostm_Net_Read.B0 n i got_b got_l got_c w   R) :
    KW Tryz.prog 100 69 (hostm_Net_Read.RV R) ([(0, [])].map (toItem (Tryz.f100.body.getD .skip))) [(0, .pointer n), (1, .int .i64 i), (2, .slice got_b got_l got_c)] w := by
  exact block_spec Tryz.func100 Tryz.mixed stops_nil (Eq.mp (hostm_Net_Read.B0_eq n i got_b got_l got_c w   R ) h)
theorem hostm_Net_Read.sound (n : Option Addr) (i : Int) (got_b : Option Addr) (got_l got_c : Nat) (w : World) (R : Bool → World → Prop) (h : hostm_Net_Read.B0 n i got_b got_l got_c w R) : hostm_Net_Read.Call n i got_b got_l got_c w R := by
  have hc := calls_of_block (args := #[.pointer n, .int .i64 i, .slice got_b got_l got_c]) Tryz.func100 (body := (Tryz.f100.body.getD .skip)) (by kernel_rfl) (by kernel_rfl) (args_slot _) (hostm_Net_Read.B0_sound n i got_b got_l got_c w h)
  exact hc.mono fun e w' he => by
    obtain ⟨v, rfl, hv⟩ := he
    exact hostm_Net_Read.RV_elim hv
def hostm_WantClose.B1 (t20 : Bool) (w : World)   (R : Int → World → Prop) : Prop :=
  Bm t20 (
    R (15 : Int) w) (
    R (0 : Int) w)
theorem hostm_WantClose.B1_eq (t20 : Bool) (w : World)   (R : Int → World → Prop)  :
    (
  Bm t20 (
    R (15 : Int) w) (
    R (0 : Int) w)) = kstep Tryz.prog 21 Tryz.f101.results.toList (Tryz.f101.body.getD .skip) (hostm_WantClose.RV R) (kvc Tryz.prog 21 Tryz.f101.results.toList (Tryz.f101.body.getD .skip) (hostm_WantClose.RV R) [] 2000) [(0, [1, 1, 0, 1]), (0, [1, 1, 1])] [(20, .bool t20)] w := by kernel_rfl
theorem hostm_WantClose.B1_sound {R : Int → World → Prop}  (t20 : Bool) (w : World) (h : hostm_WantClose.B1 t20 w   R) :
    KW Tryz.prog 101 21 (hostm_WantClose.RV R) ([(0, [1, 1, 0, 1]), (0, [1, 1, 1])].map (toItem (Tryz.f101.body.getD .skip))) [(20, .bool t20)] w := by
  exact block_spec Tryz.func101 Tryz.mixed stops_nil (Eq.mp (hostm_WantClose.B1_eq t20 w   R ) h)
def hostm_WantClose.B0 (c : Option Addr) (w : World)   (R : Int → World → Prop) : Prop :=
  Pn c fun a =>
  LdI .i64 a w fun x6 =>
  Bm (x6 == (4 : Int)) (
    hostm_ended.Call c w fun r9 w1 =>
    R r9 w1) (
    Pn c fun a_1 =>
    LdI .i64 a_1 w fun x13 =>
    Bm (x13 != (1 : Int)) (
      Pn c fun a_2 =>
      LdB (a_2.add 2) w fun x19 =>
      hostm_WantClose.B1 x19 w  R) (
      hostm_WantClose.B1 false w  R))
theorem hostm_WantClose.B0_eq (c : Option Addr) (w : World)   (R : Int → World → Prop) (sB1 : Bool → World → Prop) :
    (
  Pn c fun a =>
  LdI .i64 a w fun x6 =>
  Bm (x6 == (4 : Int)) (
    hostm_ended.Call c w fun r9 w1 =>
    R r9 w1) (
    Pn c fun a_1 =>
    LdI .i64 a_1 w fun x13 =>
    Bm (x13 != (1 : Int)) (
      Pn c fun a_2 =>
      LdB (a_2.add 2) w fun x19 =>
      sB1 x19 w) (
      sB1 false w))) = kstep Tryz.prog 21 Tryz.f101.results.toList (Tryz.f101.body.getD .skip) (hostm_WantClose.RV R) (kvc Tryz.prog 21 Tryz.f101.results.toList (Tryz.f101.body.getD .skip) (hostm_WantClose.RV R) [([(0, [1, 1, 0, 1]), (0, [1, 1, 1])], fun σ w => dB (slotOf σ 20) fun t20_ => sB1 t20_ w)] 2000) [(0, [])] [(0, .pointer c)] w := by kernel_rfl
theorem hostm_WantClose.B0_sound {R : Int → World → Prop}  (c : Option Addr) (w : World) (h : hostm_WantClose.B0 c w   R) :
    KW Tryz.prog 101 21 (hostm_WantClose.RV R) ([(0, [])].map (toItem (Tryz.f101.body.getD .skip))) [(0, .pointer c)] w := by
  exact block_spec Tryz.func101 Tryz.mixed (stops_cons (fun σ w h => by
      obtain ⟨t20_, e0, h⟩ := dB_elim h
      exact (hostm_WantClose.B1_sound  t20_ w h).weaken (Sub.cons (Sub.nil _) e0)) stops_nil) (Eq.mp (hostm_WantClose.B0_eq c w   R (fun t20_ w => hostm_WantClose.B1 t20_ w  R)) h)
theorem hostm_WantClose.sound (c : Option Addr) (w : World) (R : Int → World → Prop) (h : hostm_WantClose.B0 c w R) : hostm_WantClose.Call c w R := by
  have hc := calls_of_block (args := #[.pointer c]) Tryz.func101 (body := (Tryz.f101.body.getD .skip)) (by kernel_rfl) (by kernel_rfl) (args_slot _) (hostm_WantClose.B0_sound c w h)
  exact hc.mono fun e w' he => by
    obtain ⟨v, rfl, hv⟩ := he
    exact hostm_WantClose.RV_elim hv
def host_Host_Abort.B0 (h0 : Option Addr) (sd : Int) (w : World)   (R : Option Addr → Nat → Nat → Int → World → Prop) : Prop :=
  host_Host_listener.Call h0 sd w fun r14 w1 =>
  Bm r14 (
    host_Host_shut.Call h0 sd w1 fun r17_b r17_l r17_c w2 =>
    R r17_b r17_l r17_c (0 : Int) w2) (
    host_Host_ours.Call h0 sd w1 fun r22_0_0 r22_0_1 r22_0_2 r22_0_3 r22_0_4 r22_0_5 r22_0_6 r22_0_7 r22_1 w3 =>
    New (.cells #[.int .i64 (0 : Int), .int .i64 (0 : Int), .int .i64 (0 : Int), .int .i64 (0 : Int), .int .i64 (0 : Int), .int .i64 (0 : Int), .int .i64 (0 : Int), .bool false] 66) w3 fun en_ w4 =>
    Sts [.int .i64 r22_0_0, .int .i64 r22_0_1, .int .i64 r22_0_2, .int .i64 r22_0_3, .int .i64 r22_0_4, .int .i64 r22_0_5, .int .i64 r22_0_6, .bool r22_0_7] ⟨en_, 0, none⟩ 0 w4 fun w5 =>
    Bm (!r22_1) (
      R none 0 0 (21 : Int) w5) (
      LdI .i64 ⟨en_, 5, none⟩ w5.drew fun x30 =>
      Pn h0 fun a =>
      (0 ≤ x30 ∧ x30 < ((4 : Nat) : Int)) ∧
      LdP (Addr.add (a.add 13) (x30.toNat * 1)) w5.drew fun x34 =>
      conn_Conn_Abort.Call x34 w5.drew fun r35_0_b r35_0_l r35_0_c r35_1 w6 =>
      Bm (r35_1 != (0 : Int)) (
        R none 0 0 r35_1 w6) (
        New (.cells #[] 81) w6 fun b42 w7 =>
        LdI .i64 ⟨en_, 0, none⟩ w7 fun x43_0 =>
        LdI .i64 ⟨en_, 1, none⟩ w7 fun x43_1 =>
        LdI .i64 ⟨en_, 2, none⟩ w7 fun x43_2 =>
        LdI .i64 ⟨en_, 3, none⟩ w7 fun x43_3 =>
        LdI .i64 ⟨en_, 4, none⟩ w7 fun x43_4 =>
        LdI .i64 ⟨en_, 5, none⟩ w7 fun x43_5 =>
        LdI .i64 ⟨en_, 6, none⟩ w7 fun x43_6 =>
        LdB ⟨en_, 7, none⟩ w7 fun x43_7 =>
        host_Host_emit.Call h0 (some ⟨b42, 0, none⟩) 0 0 x43_0 x43_1 x43_2 x43_3 x43_4 x43_5 x43_6 x43_7 r35_0_b r35_0_l r35_0_c w7 fun r45_b r45_l r45_c w8 =>
        R r45_b r45_l r45_c (0 : Int) w8)))
theorem host_Host_Abort.B0_eq (h0 : Option Addr) (sd : Int) (w : World)   (R : Option Addr → Nat → Nat → Int → World → Prop)  :
    (
  host_Host_listener.Call h0 sd w fun r14 w1 =>
  Bm r14 (
    host_Host_shut.Call h0 sd w1 fun r17_b r17_l r17_c w2 =>
    R r17_b r17_l r17_c (0 : Int) w2) (
    host_Host_ours.Call h0 sd w1 fun r22_0_0 r22_0_1 r22_0_2 r22_0_3 r22_0_4 r22_0_5 r22_0_6 r22_0_7 r22_1 w3 =>
    New (.cells #[.int .i64 (0 : Int), .int .i64 (0 : Int), .int .i64 (0 : Int), .int .i64 (0 : Int), .int .i64 (0 : Int), .int .i64 (0 : Int), .int .i64 (0 : Int), .bool false] 66) w3 fun en_ w4 =>
    Sts [.int .i64 r22_0_0, .int .i64 r22_0_1, .int .i64 r22_0_2, .int .i64 r22_0_3, .int .i64 r22_0_4, .int .i64 r22_0_5, .int .i64 r22_0_6, .bool r22_0_7] ⟨en_, 0, none⟩ 0 w4 fun w5 =>
    Bm (!r22_1) (
      R none 0 0 (21 : Int) w5) (
      LdI .i64 ⟨en_, 5, none⟩ w5.drew fun x30 =>
      Pn h0 fun a =>
      (0 ≤ x30 ∧ x30 < ((4 : Nat) : Int)) ∧
      LdP (Addr.add (a.add 13) (x30.toNat * 1)) w5.drew fun x34 =>
      conn_Conn_Abort.Call x34 w5.drew fun r35_0_b r35_0_l r35_0_c r35_1 w6 =>
      Bm (r35_1 != (0 : Int)) (
        R none 0 0 r35_1 w6) (
        New (.cells #[] 81) w6 fun b42 w7 =>
        LdI .i64 ⟨en_, 0, none⟩ w7 fun x43_0 =>
        LdI .i64 ⟨en_, 1, none⟩ w7 fun x43_1 =>
        LdI .i64 ⟨en_, 2, none⟩ w7 fun x43_2 =>
        LdI .i64 ⟨en_, 3, none⟩ w7 fun x43_3 =>
        LdI .i64 ⟨en_, 4, none⟩ w7 fun x43_4 =>
        LdI .i64 ⟨en_, 5, none⟩ w7 fun x43_5 =>
        LdI .i64 ⟨en_, 6, none⟩ w7 fun x43_6 =>
        LdB ⟨en_, 7, none⟩ w7 fun x43_7 =>
        host_Host_emit.Call h0 (some ⟨b42, 0, none⟩) 0 0 x43_0 x43_1 x43_2 x43_3 x43_4 x43_5 x43_6 x43_7 r35_0_b r35_0_l r35_0_c w7 fun r45_b r45_l r45_c w8 =>
        R r45_b r45_l r45_c (0 : Int) w8)))) = kstep Tryz.prog 47 Tryz.f102.results.toList (Tryz.f102.body.getD .skip) (host_Host_Abort.RV R) (kvc Tryz.prog 47 Tryz.f102.results.toList (Tryz.f102.body.getD .skip) (host_Host_Abort.RV R) [] 2000) [(0, [])] [(0, .pointer h0), (1, .int .i64 sd)] w := by kernel_rfl
theorem host_Host_Abort.B0_sound {R : Option Addr → Nat → Nat → Int → World → Prop}  (h0 : Option Addr) (sd : Int) (w : World) (h : host_Host_Abort.B0 h0 sd w   R) :
    KW Tryz.prog 102 47 (host_Host_Abort.RV R) ([(0, [])].map (toItem (Tryz.f102.body.getD .skip))) [(0, .pointer h0), (1, .int .i64 sd)] w := by
  exact block_spec Tryz.func102 Tryz.mixed stops_nil (Eq.mp (host_Host_Abort.B0_eq h0 sd w   R ) h)
theorem host_Host_Abort.sound (h0 : Option Addr) (sd : Int) (w : World) (R : Option Addr → Nat → Nat → Int → World → Prop) (h : host_Host_Abort.B0 h0 sd w R) : host_Host_Abort.Call h0 sd w R := by
  have hc := calls_of_block (args := #[.pointer h0, .int .i64 sd]) Tryz.func102 (body := (Tryz.f102.body.getD .skip)) (by kernel_rfl) (by kernel_rfl) (args_slot _) (host_Host_Abort.B0_sound h0 sd w h)
  exact hc.mono fun e w' he => by
    obtain ⟨v, rfl, hv⟩ := he
    exact host_Host_Abort.RV_elim hv
end Go.Proofs.Qxb6500424aGreat
