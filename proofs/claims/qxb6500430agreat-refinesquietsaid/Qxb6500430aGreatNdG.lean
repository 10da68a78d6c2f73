/-
  node: apply, giveUp, did, after.
-/
import Derived.Test.Qxb6500430aGreatNdF
set_option linter.unusedVariables false
set_option linter.unusedSimpArgs false
open Go.Vc
namespace Go.Proofs.Qxb6500430aGreat
open Kv
section
variable {n : NS}
theorem ansN_Y (n : NS) (d : ByteArray) (a : Int × ByteArray) : (ansN n d a).1.Y = n.Y ∧ (ansN n d a).1.kv = n.kv ∧ (ansN n d a).1.ap = n.ap := by
  unfold ansN
  split
  · exact ⟨rfl, rfl, rfl⟩
  · split <;> exact ⟨rfl, rfl, rfl⟩
theorem run1_Y (n : NS) : (run1 n).1.Y = n.Y ∧ (run1 n).1.ap = n.ap + 1 := by
  unfold run1
  split
  · exact ⟨rfl, rfl⟩
  · have h := ansN_Y { n with ap := n.ap + 1, kv := (applyA (datN n) n.kv).2 } (datN n) (applyA (datN n) n.kv).1
    exact ⟨h.1, h.2.2⟩
theorem run1_kok (h : KvOk n.kv.A n.kv.S) : KvOk (run1 n).1.kv.A (run1 n).1.kv.S := by
  unfold run1
  split
  · exact h
  · have q := ansN_Y { n with ap := n.ap + 1, kv := (applyA (datN n) n.kv).2 } (datN n) (applyA (datN n) n.kv).1
    rw [q.2.1]
    exact applyA_ok h
theorem runN_Y : ∀ (k : Nat) (n : NS), (runN k n).1.Y = n.Y ∧ (runN k n).1.ap = n.ap + (k : Int)
  | 0, n => ⟨rfl, by simp [runN]⟩
  | k + 1, n => by
    have h1 := run1_Y n
    have h2 := runN_Y k (run1 n).1
    simp only [runN]
    refine ⟨by rw [h2.1, h1.1], ?_⟩
    rw [h2.2, h1.2]
    omega
theorem runN_kok : ∀ (k : Nat) (n : NS), KvOk n.kv.A n.kv.S → KvOk (runN k n).1.kv.A (runN k n).1.kv.S
  | 0, n, h => h
  | k + 1, n, h => runN_kok k (run1 n).1 (run1_kok h)
theorem runN_succ : ∀ (k : Nat) (n : NS), runN (k + 1) n = ((run1 (runN k n).1).1, (runN k n).2 ++ (run1 (runN k n).1).2)
  | 0, n => by simp [runN]
  | k + 1, n => by
    have h := runN_succ k (run1 n).1
    show ((runN (k + 1) (run1 n).1).1, (run1 n).2 ++ (runN (k + 1) (run1 n).1).2) = _
    rw [h]
    simp only [runN, List.append_assoc]
theorem give1_Y (role : Int) (c : Nat) (n : NS) : (give1 role c n).1.Y = n.Y ∧ (give1 role c n).1.kv = n.kv ∧ (give1 role c n).1.ap = n.ap := by
  unfold give1
  split <;> exact ⟨rfl, rfl, rfl⟩
theorem giveN_Y (role : Int) : ∀ (k : Nat) (n : NS), (giveN role k n).1.Y = n.Y ∧ (giveN role k n).1.kv = n.kv ∧ (giveN role k n).1.ap = n.ap
  | 0, n => ⟨rfl, rfl, rfl⟩
  | k + 1, n => by
    have h1 := giveN_Y role k n
    have h2 := give1_Y role k (giveN role k n).1
    simp only [giveN]
    exact ⟨h2.1.trans h1.1, h2.2.1.trans h1.2.1, h2.2.2.trans h1.2.2⟩
end
section
variable {w0 w w' : World} {lo p s kp k l t d e : Nat} {D0 D : DiskS} {N : Int} {L0 : LogS} {F F0 : List Nat} {A : AbsS} {n n' : NS} {S : List LogS} {raw raw' : Nat → Value} {Rs Rs' : List Rep}
theorem str_e (a : ByteArray) : (a.toList == (ByteArray.mk #[]).toList) = decide (a = estr) := Kv.str_beq a (ByteArray.mk #[])
theorem napply_ok {R : World → Prop} (h : NReal w lo p kp k s l t d e D0 N L0 D F A n S raw Rs) (hY : YsOk n.Y) (hk : KvOk n.kv.A n.kv.S) (hap : 0 ≤ n.ap ∧ n.ap ≤ n.Y.cm) (hu : Rs.length + uc n ≤ 3)
    (hR : ∀ raw' w', NReal w' lo p kp k s l t d e D0 N L0 D F A (runN (n.Y.cm - n.ap).toNat n).1 S raw' (Rs ++ (runN (n.Y.cm - n.ap).toNat n).2) → Fr NT lo w w' → R w') : node_Node_apply.Call (some ⟨p, 0, none⟩) n.Y.cm w R := by
  apply node_Node_apply.sound
  unfold node_Node_apply.B0 node_Node_apply.L1
  have hcm := hY.hi
  have hl2 := hY.L.last
  have hl : n.Y.L.last = n.Y.L.base + (n.Y.L.ents.length : Int) := rfl
  obtain ⟨K, hK⟩ : ∃ K : Nat, n.Y.cm - n.ap = K := ⟨(n.Y.cm - n.ap).toNat, by omega⟩
  rw [hK, Int.toNat_natCast] at hR
  refine ⟨fun m p' c' w' => ∃ (j : Nat) (raw' : Nat → Value), j ≤ K ∧ m = K - j ∧ some ⟨p, 0, none⟩ = p' ∧ n.Y.cm = c' ∧ NReal w' lo p kp k s l t d e D0 N L0 D F A (runN j n).1 S raw' (Rs ++ (runN j n).2) ∧ Fr NT lo w w', _, ⟨0, raw, by omega, rfl, rfl, rfl, by simpa [runN] using h, Fr.of0 (Ext.refl _ _)⟩, ?_⟩
  rintro m p' c' wa ⟨j, ra, hj, rfl, rfl, rfl, ha, fa⟩
  unfold node_Node_apply.L1b
  have ma := runN_Y j n
  have mk := runN_kok j n hk
  have mu := uc_run j n
  have msucc := runN_succ j n
  generalize hm : (runN j n).1 = m at ha ma mk mu msucc
  generalize hq : (runN j n).2 = q at ha mu msucc
  have hap2 : m.ap = n.ap + (j : Int) := ma.2
  have hYm : YsOk m.Y := by rw [ma.1]; exact hY
  refine Pn.mk (ha.nd.ldA ?_)
  by_cases hlt : m.ap < n.Y.cm
  rotate_left
  · refine Bm.neg (decide_eq_false hlt) ?_
    have hjK : j = K := by omega
    subst hjK
    refine hR ra wa ?_ fa
    rw [hm, hq]
    exact ha
  refine Bm.pos (decide_eq_true hlt) (Pn.mk (ha.nd.ldA (Pn.mk ?_)))
  rw [w64 (x := m.ap + 1) (by omega) (by omega)]
  refine ha.nd.stA fun w1 o1 he1 => Pn.mk ?_
  let m1 : NS := { m with ap := m.ap + 1 }
  have h1 : NReal w1 lo p kp k s l t d e D0 N L0 D F A m1 S ra (Rs ++ q) := ha.st o1 he1 rfl rfl ha.raw ha.rl
  have f1 := fa.trans (ha.frP he1)
  have h1d := h1.ext0 (Ext.drew [] w1)
  refine h1d.nd.ldS (Pn.mk (h1d.nd.ldA ?_))
  have hat : m1.ap = m.ap + 1 := rfl
  have hsz := atL_size hYm.L (m.ap + 1)
  -- behind the loading of the entry
  have fin : ∀ {wx : World} {mm : NS} {rx : Nat → Value} {qq : List Rep}, NReal wx lo p kp k s l t d e D0 N L0 D F A mm S rx (Rs ++ qq) → Fr NT lo w wx → runN (j + 1) n = (mm, qq) → ∃ m', m' < K - j ∧ ∃ (j : Nat) (raw' : Nat → Value), j ≤ K ∧ m' = K - j ∧ some (⟨p, 0, none⟩ : Addr) = some ⟨p, 0, none⟩ ∧ n.Y.cm = n.Y.cm ∧ NReal wx lo p kp k s l t d e D0 N L0 D F A (runN j n).1 S raw' (Rs ++ (runN j n).2) ∧ Fr NT lo w wx := fun {wx mm rx qq} hx fx e => ⟨K - (j + 1), by omega, j + 1, rx, by omega, rfl, rfl, rfl, by rw [e]; exact hx, fx⟩
  have b1 : ∀ {wx : World} {eb : Nat} {te : Int}, NReal wx lo p kp k s l t d e D0 N L0 D F A m1 S ra (Rs ++ q) → Own wx eb #[.int .i64 te, .string (datN m)] T_api_Entry → Fr NT lo w wx → node_Node_apply.B1 (some ⟨p, 0, none⟩) n.Y.cm eb wx (fun n' commit' w' => ∃ m', m' < K - j ∧ ∃ (j : Nat) (raw' : Nat → Value), j ≤ K ∧ m' = K - j ∧ some ⟨p, 0, none⟩ = n' ∧ n.Y.cm = commit' ∧ NReal w' lo p kp k s l t d e D0 N L0 D F A (runN j n).1 S raw' (Rs ++ (runN j n).2) ∧ Fr NT lo w w') R := fun {wx eb te} hx ox fx => by
    unfold node_Node_apply.B1
    refine LdS.mk ox rfl ?_
    rw [str_e]
    by_cases hde : datN m = estr
    · rw [decide_eq_true hde]
      refine Bm.neg rfl (fin hx fx ?_)
      rw [msucc]
      unfold run1
      rw [if_pos hde, List.append_nil]
    · rw [decide_eq_false hde]
      refine Bm.pos rfl (Pn.mk ?_)
      have hxd := hx.ext0 (Ext.drew [] wx)
      have oxd : Own wx.drew eb #[.int .i64 te, .string (datN m)] T_api_Entry := Own.drew ox
      have fxd := fx.trans (Fr.of0 (Ext.drew [] wx))
      have hd48 : (datN m).size ≤ 281474976710656 := by show (atL m.Y.L (m.ap + 1)).1.2.size ≤ _; omega
      -- behind the answer
      have b2 : ∀ {wy : World} {ab : Nat}, NReal wy lo p kp k s l t d e D0 N L0 D F A { m1 with kv := (applyA (datN m) m.kv).2 } S ra (Rs ++ q) → Own wy eb #[.int .i64 te, .string (datN m)] T_api_Entry → Own wy ab #[.int .i64 (applyA (datN m) m.kv).1.1, .string (applyA (datN m) m.kv).1.2] T_api_Ans → Fr NT lo w wy → node_Node_apply.B2 (some ⟨p, 0, none⟩) n.Y.cm eb ab wy (fun n' commit' w' => ∃ m', m' < K - j ∧ ∃ (j : Nat) (raw' : Nat → Value), j ≤ K ∧ m' = K - j ∧ some ⟨p, 0, none⟩ = n' ∧ n.Y.cm = commit' ∧ NReal w' lo p kp k s l t d e D0 N L0 D F A (runN j n).1 S raw' (Rs ++ (runN j n).2) ∧ Fr NT lo w w') R := fun {wy ab} hy oy oab fy => by
        unfold node_Node_apply.B2
        refine LdS.mk oy rfl (LdI.mk oab rfl (LdS.mk oab rfl (answer_ok hy ?_ (by show (atL m.Y.L (m.ap + 1)).1.2.size ≤ _; omega) fun rz wz hz fz => ?_)))
        · have : uc { m1 with kv := (applyA (datN m) m.kv).2 } = uc m := rfl
          rw [this, List.length_append]
          omega
        · refine fin (qq := q ++ (ansN { m1 with kv := (applyA (datN m) m.kv).2 } (datN m) (applyA (datN m) m.kv).1).2) (rx := rz) (by rw [← List.append_assoc]; exact hz) (fy.trans fz) ?_
          rw [msucc]
          unfold run1
          rw [if_neg hde]
      refine hxd.nd.ldK (LdS.mk oxd rfl ⟨?_, ?_⟩)
      · refine realApply_ok (s := m.kv) hxd.kv mk hd48 fun w2 k2 he2 => NewSet.mk rfl rfl fun ab w4 hab hs4 oab he4 => ?_
        have hy := (hxd.kvs k2 he2).ext0 he4
        obtain ⟨cs, okk⟩ := hxd.kty
        exact b2 hy (he4.own (ownT he2 (Tys.one okk) oxd (by decide)) (by simp)) oab ((fxd.trans (hxd.frK he2)).trans (Fr.of0 he4))
      · refine New.mk fun ab w4 hab hs4 oab he4 => ?_
        have hx4 := hxd.ext0 he4
        have ox4 := he4.own oxd (by simp)
        refine ⟨ox4.cell rfl, ?_, ?_⟩
        · rw [add_mk]
          exact Own.cell hx4.nd (by rw [fnArr_get _ (by omega)]; rfl)
        · refine realApply_ok (s := m.kv) hx4.kv mk hd48 fun w5 k5 he5 => ?_
          obtain ⟨cs, okk⟩ := hx4.kty
          have t5 := Tys.one okk
          have oab5 := ownT he5 t5 oab (by decide)
          refine Sts.full oab5 rfl rfl fun w6 hs6 oab6 he6 => ?_
          have t6 := Tys.one oab5
          have hy := (hx4.kvs k5 he5).extT (ExtT.of he6 t6) (by decide)
          have f5 := (fxd.trans (Fr.of0 he4)).trans (hx4.frK he5)
          have z4 := fxd.size
          have fw := f5.size
          refine b2 hy (ownT he6 t6 (ownT he5 t5 ox4 (by decide)) (by decide)) oab6 (f5.fresh he6 ?_ ?_)
          · have := fxd.size
            omega
          · have := h.gp
            have q2 := NdAt.drew hx.nd
            have := Own.lt q2
            omega
  have hsm := h1d.sm.rest
  have hbd : -9223372036854775808 ≤ m.ap + 1 ∧ m.ap + 1 ≤ 9223372036854775807 := by omega
  refine ⟨?_, ?_⟩
  · refine at_ok hsm hbd fun w2 he2 => NewSet.mk rfl rfl fun eb w4 heb hs4 oe he4 => ?_
    exact b1 ((h1d.ext0 he2).ext0 he4) oe (f1.trans (Fr.of0 (((Ext.drew [] w1).trans he2).trans he4)))
  · refine New.mk fun eb w5 heb hs5 oe he5 => ?_
    have h5 := h1d.ext0 he5
    refine ⟨?_, Own.cell h5.nd (by rw [fnArr_get _ (by omega)]; rfl), ?_⟩
    · rw [add_mk]
      exact Own.cell h5.nd (by rw [fnArr_get _ (by omega)]; rfl)
    · refine at_ok h5.sm.rest hbd fun w6 he6 => ?_
      have oe6 := he6.own oe (by simp)
      refine Sts.full oe6 rfl rfl fun w7 hs7 oe7 he7 => ?_
      have t7 := Tys.one oe6
      have f6 := f1.trans (Fr.of0 (((Ext.drew [] w1).trans he5).trans he6))
      refine b1 ((h5.ext0 he6).extT (ExtT.of he7 t7) (by decide)) oe7 (f6.fresh he7 ?_ ?_)
      · have := f1.size
        have : w1.drew.heap.size = w1.heap.size := rfl
        omega
      · have := h.gp
        have := Own.lt o1
        have : w1.drew.heap.size = w1.heap.size := rfl
        omega
theorem ngive_ok {role : Int} {R : World → Prop} (h : NReal w lo p kp k s l t d e D0 N L0 D F A n S raw Rs) (hu : Rs.length + uc n ≤ 3)
    (hR : ∀ raw' w', NReal w' lo p kp k s l t d e D0 N L0 D F A (giveN role 3 n).1 S raw' (Rs ++ (giveN role 3 n).2) → Fr NT lo w w' → R w') : node_Node_giveUp.Call (some ⟨p, 0, none⟩) role w R := by
  apply node_Node_giveUp.sound
  unfold node_Node_giveUp.B0 node_Node_giveUp.L1
  refine ⟨fun m p' r' c' w' => ∃ (j : Nat) (raw' : Nat → Value), j ≤ 3 ∧ m = 3 - j ∧ some ⟨p, 0, none⟩ = p' ∧ role = r' ∧ c' = (j : Int) ∧ NReal w' lo p kp k s l t d e D0 N L0 D F A (giveN role j n).1 S raw' (Rs ++ (giveN role j n).2) ∧ Fr NT lo w w', _, ⟨0, raw, by omega, rfl, rfl, rfl, rfl, by simpa [giveN] using h, Fr.of0 (Ext.refl _ _)⟩, ?_⟩
  rintro m p' r' c' wa ⟨j, ra, hj, rfl, rfl, rfl, rfl, ha, fa⟩
  unfold node_Node_giveUp.L1b
  by_cases hlt : (j : Int) < 3
  rotate_left
  · refine Bm.neg (decide_eq_false hlt) ?_
    have : j = 3 := by omega
    subst this
    exact hR ra wa ha fa
  refine Bm.pos (decide_eq_true hlt) (Pn.mk ⟨⟨by omega, by omega⟩, ?_⟩)
  have had := ha.ext0 (Ext.drew [] wa)
  have fad := fa.trans (Fr.of0 (Ext.drew [] wa))
  have mu := uc_give (role := role) j n (by omega)
  have hsucc : giveN role (j + 1) n = ((give1 role j (giveN role j n).1).1, (giveN role j n).2 ++ (give1 role j (giveN role j n).1).2) := rfl
  generalize hm : (giveN role j n).1 = m at ha had mu hsucc
  generalize hq : (giveN role j n).2 = q at ha had mu hsucc
  have b1 : ∀ tt : Bool, (tt = true → m.used j = true ∧ (role ≠ 2 ∨ m.idx j ≤ m.ap)) → (tt = false → ¬ (m.used j = true ∧ (role ≠ 2 ∨ m.idx j ≤ m.ap))) → node_Node_giveUp.B1 (some ⟨p, 0, none⟩) role (j : Int) tt wa.drew (fun n' role' c' w' => ∃ m', m' < 3 - j ∧ ∃ (j : Nat) (raw' : Nat → Value), j ≤ 3 ∧ m' = 3 - j ∧ some ⟨p, 0, none⟩ = n' ∧ role = role' ∧ c' = (j : Int) ∧ NReal w' lo p kp k s l t d e D0 N L0 D F A (giveN role j n).1 S raw' (Rs ++ (giveN role j n).2) ∧ Fr NT lo w w') R := fun tt h1 h2 => by
    unfold node_Node_giveUp.B1
    refine Bm.mk (fun ht => ?_) fun hf => ?_
    · have hc := h1 ht
      have hup := uc_clear (n := m) (c := j) (by omega) hc.1
      refine nreply_ok had (by omega) (by rw [List.length_append]; omega) fun rz wz hz fz => ?_
      unfold node_Node_giveUp.B2
      refine ⟨3 - (j + 1), by omega, j + 1, rz, by omega, rfl, rfl, rfl, by rw [w64 (by omega) (by omega)]; omega, ?_, fad.trans fz⟩
      rw [hsucc]
      unfold give1
      rw [if_pos hc, ← List.append_assoc]
      exact hz
    · unfold node_Node_giveUp.B2
      refine ⟨3 - (j + 1), by omega, j + 1, ra, by omega, rfl, rfl, rfl, by rw [w64 (by omega) (by omega)]; omega, ?_, fad⟩
      rw [hsucc]
      unfold give1
      rw [if_neg (h2 hf), List.append_nil]
      exact had
  refine had.nd.ldU (by omega) ?_
  cases hus : m.used j with
  | false => exact Bm.neg rfl (b1 false (fun q => by cases q) fun _ q => by rw [hus] at q; cases q.1)
  | true =>
    refine Bm.pos rfl (Bm.mk (fun hr => b1 true (fun _ => ⟨hus, .inl (by simpa using hr)⟩) fun q => by cases q) fun hr => Pn.mk ⟨⟨by omega, by omega⟩, had.nd.ldI (by omega) (Pn.mk (had.nd.ldA (b1 _ (fun q => ⟨hus, .inr (by simpa using q)⟩) fun q hc => ?_)))⟩)
    have hr' : role = 2 := by simpa using hr
    rcases hc.2 with z | z
    · exact z hr'
    · simp at q
      omega
/-! ### what an event gives -/
def outsOf (E : List ME) : List (Int × ByteArray) := E.map fun x => (x.1.to, encM x.1)
abbrev RDid := Int → Option Addr → Nat → Nat → Option Addr → Nat → Nat → World → Prop
theorem rowMsgN {b : Option Addr} {l c n : Nat} {E : List ME} {x : ME} {Q : Int → Int → Int → Int → Int → Int → Int → Bool → Option Addr → Nat → Nat → ByteArray → Prop} (h : Row w b l c 10 T_api_Msg (E.flatMap meC)) (hx : E[n]? = some x) (hQ : Q x.1.kind x.1.fr x.1.to x.1.term x.1.idx x.1.lt x.1.cm x.1.ok x.2.1 x.1.ents.length x.2.2 x.1.data) :
    Pn b fun a => (0 ≤ (n : Int) ∧ (n : Int) < (l : Int)) ∧ LdI .i64 (Addr.add a ((n : Int).toNat * 10)) w fun x0 => LdI .i64 ((Addr.add a ((n : Int).toNat * 10)).add 1) w fun x1 => LdI .i64 ((Addr.add a ((n : Int).toNat * 10)).add 2) w fun x2 => LdI .i64 ((Addr.add a ((n : Int).toNat * 10)).add 3) w fun x3 => LdI .i64 ((Addr.add a ((n : Int).toNat * 10)).add 4) w fun x4 => LdI .i64 ((Addr.add a ((n : Int).toNat * 10)).add 5) w fun x5 => LdI .i64 ((Addr.add a ((n : Int).toNat * 10)).add 6) w fun x6 => LdB ((Addr.add a ((n : Int).toNat * 10)).add 7) w fun x7 => LdL ((Addr.add a ((n : Int).toNat * 10)).add 8) w fun x8 x9 x10 => LdS ((Addr.add a ((n : Int).toNat * 10)).add 9) w fun x11 => Q x0 x1 x2 x3 x4 x5 x6 x7 x8 x9 x10 x11 := by
  have h1 := h.1
  have h2 := flat_length meC_len E
  have hlt := (List.getElem?_eq_some_iff.1 hx).1
  obtain ⟨k, rfl, cs, ho, hc⟩ := h.at (i := n) (by omega) (by omega)
  refine Pn.mk ⟨⟨by omega, by omega⟩, ?_⟩
  have g : ∀ i, i < 10 → cs[n * 10 + i]? = (meC x)[i]? := fun i hi => by rw [hc i hi, flat_get meC_len hx hi]
  simp only [Int.toNat_natCast, add_mk, Nat.zero_add]
  exact LdI.mk ho (g 0 (by omega)) (LdI.mk ho (g 1 (by omega)) (LdI.mk ho (g 2 (by omega)) (LdI.mk ho (g 3 (by omega)) (LdI.mk ho (g 4 (by omega)) (LdI.mk ho (g 5 (by omega)) (LdI.mk ho (g 6 (by omega)) (LdB.mk ho (g 7 (by omega)) (LdL.mk ho (g 8 (by omega)) (LdS.mk ho (g 9 (by omega)) hQ)))))))))
theorem rowToN {b : Option Addr} {l c n : Nat} {E : List ME} {x : ME} {Q : Int → Prop} (h : Row w b l c 10 T_api_Msg (E.flatMap meC)) (hx : E[n]? = some x) (hQ : Q x.1.to) :
    Pn b fun a => (0 ≤ (n : Int) ∧ (n : Int) < (l : Int)) ∧ LdI .i64 ((Addr.add a ((n : Int).toNat * 10)).add 2) w Q := by
  have h1 := h.1
  have h2 := flat_length meC_len E
  have hlt := (List.getElem?_eq_some_iff.1 hx).1
  obtain ⟨k, rfl, cs, ho, hc⟩ := h.at (i := n) (by omega) (by omega)
  refine Pn.mk ⟨⟨by omega, by omega⟩, ?_⟩
  simp only [Int.toNat_natCast, add_mk, Nat.zero_add]
  exact LdI.mk ho (by rw [hc 2 (by omega), flat_get meC_len hx (by omega)]; rfl) hQ
theorem repLd {j : Nat} {r : Rep} {nr : Int} {Q : Int → Int → Int → ByteArray → Prop} (h : NdAt w p s kp k n raw nr) (hr : RawIs raw Rs) (hj : j < 3) (hx : Rs[j]? = some r) (hQ : Q r.1 r.2.1 r.2.2.1 r.2.2.2) :
    LdI .i64 (Addr.add (Addr.add ⟨p, 0, none⟩ 13) ((j : Int).toNat * 4)) w fun x0 => LdI .i64 ((Addr.add (Addr.add ⟨p, 0, none⟩ 13) ((j : Int).toNat * 4)).add 1) w fun x1 => LdI .i64 ((Addr.add (Addr.add ⟨p, 0, none⟩ 13) ((j : Int).toNat * 4)).add 2) w fun x2 => LdS ((Addr.add (Addr.add ⟨p, 0, none⟩ 13) ((j : Int).toNat * 4)).add 3) w fun x3 => Q x0 x1 x2 x3 := by
  have raws : ∀ i, i < 4 → ndF s kp k n raw nr (13 + j * 4 + i) = (repC r).getD i undef := fun i hi => by
    have := ndF_raw (s := s) (kp := kp) (k := k) (n := n) (raw := raw) (nr := nr) (j := j * 4 + i) (by omega)
    rw [← Nat.add_assoc] at this
    rw [this]
    exact hr j r hx i hi
  simp only [Int.toNat_natCast, add_mk, Nat.zero_add]
  exact LdI.fn h (by omega) (raws 0 (by omega)) (LdI.fn h (by omega) (raws 1 (by omega)) (LdI.fn h (by omega) (raws 2 (by omega)) (LdS.fn h (by omega) (raws 3 (by omega)) hQ)))
theorem did_ok {mb : Option Addr} {ml mc lo2 : Nat} {E : List ME} {R : RDid} (h : NReal w lo p kp k s l t d e D0 N L0 D F A n S raw Rs) (hE : ML w mb ml mc lo2 E) (hml : ml ≤ 100) (hen : ∀ x ∈ E, x.1.ents.length ≤ 1000) (hlo : lo ≤ w.heap.size)
    (hR : ∀ ob oc rb rc w', Row w' ob E.length oc 2 T_api_Out ((outsOf E).flatMap outC) → Row w' rb Rs.length rc 4 T_api_Reply (Rs.flatMap repC) → (∀ y ∈ rowBlk ob, w.heap.size ≤ y) → (∀ y ∈ rowBlk rb, w.heap.size ≤ y) → NReal w' lo p kp k s l t d e D0 N L0 D F A n S raw Rs → Fr NT lo w w' → R 0 ob E.length oc rb Rs.length rc w') : node_Node_did.Call (some ⟨p, 0, none⟩) mb ml mc w R := by
  apply node_Node_did.sound
  unfold node_Node_did.B0
  refine New.mk fun t4 w1 ht4 hs1 ot1 he1 => New.mk fun dd w2 hdd hs2 od2 he2 => Pn.mk ?_
  have E2 := he1.trans he2
  have h2 := h.ext0 E2
  have hE2 := hE.ext0 E2
  have hlen := hE.len
  have hrl := h.rl
  have z1 := he1.size
  have htd : t4 ≠ dd := by omega
  have ot2 := he2.own ot1 (by simp)
  have hol : (outsOf E).length = E.length := by simp [outsOf]
  -- the return
  have ret : ∀ {wx : World} {ob rb : Option Addr} {oc rc : Nat} {cs : Array Value}, Own wx dd #[.int .i64 0, .slice ob E.length oc, .slice rb Rs.length rc] T_api_Did → Own wx t4 cs T_api_Did → cs.size = 3 → Row wx ob E.length oc 2 T_api_Out ((outsOf E).flatMap outC) → Row wx rb Rs.length rc 4 T_api_Reply (Rs.flatMap repC) → (∀ y ∈ rowBlk ob, w.heap.size ≤ y) → (∀ y ∈ rowBlk rb, w.heap.size ≤ y) → NReal wx lo p kp k s l t d e D0 N L0 D F A n S raw Rs → Fr NT lo w wx →
      LdI .i64 ⟨dd, 0, none⟩ wx fun x71_0 => LdL ⟨dd, 1, none⟩ wx fun x71_1_b x71_1_l x71_1_c => LdL ⟨dd, 2, none⟩ wx fun x71_2_b x71_2_l x71_2_c => Sts [.int .i64 x71_0, .slice x71_1_b x71_1_l x71_1_c, .slice x71_2_b x71_2_l x71_2_c] ⟨t4, 0, none⟩ 0 wx fun w7 => LdI .i64 ⟨t4, 0, none⟩ w7 fun r_0 => LdL ⟨t4, 1, none⟩ w7 fun r_1_b r_1_l r_1_c => LdL ⟨t4, 2, none⟩ w7 fun r_2_b r_2_l r_2_c => R r_0 r_1_b r_1_l r_1_c r_2_b r_2_l r_2_c w7 := fun {wx ob rb oc rc cs} od ot hsz r1 r2 g1 g2 hx fx => by
    refine LdI.mk od rfl (LdL.mk od rfl (LdL.mk od rfl (Sts.full ot (by rw [hsz]; rfl) rfl fun w7 hs7 o7 he7 => LdI.mk o7 rfl (LdL.mk o7 rfl (LdL.mk o7 rfl ?_)))))
    have t7 := Tys.one ot
    exact hR ob oc rb rc w7 (rowT r1 he7 t7 (by decide)) (rowT r2 he7 t7 (by decide)) g1 g2 (hx.extT (ExtT.of he7 t7) (by decide)) (fx.fresh he7 (by omega) (by omega))
  -- the messages
  have outs : ∀ {wx : World} {rb : Option Addr} {rc : Nat} {cs : Array Value}, ml > 0 → Own wx dd #[.int .i64 0, .slice none 0 0, .slice rb Rs.length rc] T_api_Did → Own wx t4 cs T_api_Did → cs.size = 3 → Row wx rb Rs.length rc 4 T_api_Reply (Rs.flatMap repC) → (∀ y ∈ rowBlk rb, w.heap.size ≤ y) → NReal wx lo p kp k s l t d e D0 N L0 D F A n S raw Rs → ML wx mb ml mc lo2 E → w2.heap.size ≤ wx.heap.size → Fr NT lo w wx →
      Vc.Make T_api_Out (.agg #[.int .i64 0, .string (ByteArray.mk #[])]) 2 24 ((ml : Nat) : Int) ((ml : Nat) : Int) wx fun b43 w5 => Sts [.slice (some ⟨b43, 0, none⟩) ((ml : Nat) : Int).toNat ((ml : Nat) : Int).toNat] ⟨dd, 1, none⟩ 0 w5 fun w6 => node_Node_did.L2 (some ⟨p, 0, none⟩) mb ml mc t4 dd 0 w6 R := fun {wx rb rc cs} hpos od ot hsz rr gr hx hEx hzx fx => by
    refine Make.mk (by omega) (by omega) (by omega) (by omega) fun ob w5 hob hs5 oo he5 => ?_
    have hh : Half w5 ob ml 2 T_api_Out [] 0 := Half.made (z := .agg #[.int .i64 0, .string (ByteArray.mk #[])]) (by rw [Int.toNat_natCast] at oo; exact oo)
    refine Sts.mk (he5.own od (by simp)) (by simp) rfl fun w6 hs6 od6 he6 => ?_
    have od6' : Own w6 dd #[.int .i64 0, .slice (some ⟨ob, 0, none⟩) E.length ml, .slice rb Rs.length rc] T_api_Did := by
      rw [Int.toNat_natCast] at od6
      rw [hlen]
      exact od6
    have t6 := Tys.one (he5.own od (by simp))
    have x6 : ExtT wx w6 [T_api_Did] := (ExtT.nil he5 _).trans (ExtT.of he6 t6)
    have f6 := (fx.trans (Fr.of0 he5)).fresh he6 (by omega) (by omega)
    have ot6 := he6.own (he5.own ot (by simp)) (by simpa using htd)
    have hfz := fx.size
    unfold node_Node_did.L2
    refine ⟨fun m p' mb' ml' mc' t4' dd' i w' => ∃ j : Nat, j ≤ ml ∧ m = ml - j ∧ some ⟨p, 0, none⟩ = p' ∧ mb = mb' ∧ ml = ml' ∧ mc = mc' ∧ t4 = t4' ∧ dd = dd' ∧ i = (j : Int) ∧ Half w' ob ml 2 T_api_Out ((outsOf (E.take j)).flatMap outC) j ∧ Own w' dd #[.int .i64 0, .slice (some ⟨ob, 0, none⟩) E.length ml, .slice rb Rs.length rc] T_api_Did ∧ Own w' t4 cs T_api_Did ∧ Row w' rb Rs.length rc 4 T_api_Reply (Rs.flatMap repC) ∧ NReal w' lo p kp k s l t d e D0 N L0 D F A n S raw Rs ∧ ML w' mb ml mc lo2 E ∧ Fr NT lo w w', _,
      ⟨0, by omega, rfl, rfl, rfl, rfl, rfl, rfl, rfl, rfl, by simpa [outsOf] using hh.ext he6 (by simp; omega), od6', ot6, x6.row rr (by decide), hx.extT x6 (by decide), hEx.extT x6 (by decide) (by decide), f6⟩, ?_⟩
    rintro m p' mb' ml' mc' t4' dd' i wa ⟨j, hj, rfl, rfl, rfl, rfl, rfl, rfl, rfl, rfl, ha, oda, ota, ra, hxa, hEa, fa⟩
    unfold node_Node_did.L2b
    by_cases hlt : (j : Int) < (ml : Int)
    · refine Bm.pos (decide_eq_true hlt) (Pn.mk ?_)
      have hxd := hxa.ext0 (Ext.drew [] wa)
      obtain ⟨x, hx'⟩ := get_lt' (L := E) (n := j) (by omega)
      have hxm := List.mem_of_getElem? hx'
      have rowd : Row wa.drew mb ml mc 10 T_api_Msg (E.flatMap meC) := Row.ext hEa.row (Ext.drew [] wa) (fun _ _ z => by cases z)
      have ead : EA wa.drew x.2.1 x.1.ents.length x.2.2 x.1.ents := EA.ext0 (hEa.bd.dat x hxm) (Ext.drew [] wa)
      refine hxd.nd.ldE ?_
      refine rowMsgN rowd hx' ?_
      refine encode_ok (m := x.1) hxd.en ead (hen x hxm) fun wb enb eb => ?_
      obtain ⟨ce, oe⟩ := hxd.en.own
      have tb := Tys.one oe
      have Xb : ExtT wa wb [T_node_enc] := (ExtT.nil (Ext.drew [] wa) _).trans (ExtT.of eb tb)
      have hxb : NReal wb lo p kp k s l t d e D0 N L0 D F A n S raw Rs := by
        obtain ⟨T, m, ho2, hg⟩ := hxa.kv
        exact ⟨Xb.own hxa.nd (by decide), hxa.sm.extT Xb (by decide), ⟨T, m, ⟨Xb.own ho2.1 (by decide), ho2.2⟩, hg⟩, enb, hxa.raw, hxa.rl, hxa.ge⟩
      have hEb := hEa.extT Xb (by decide) (by decide)
      have fb := (fa.trans (Fr.of0 (Ext.drew [] wa))).trans (Fr.one oe eb (by simp) (h.ge k (by simp)))
      have Ed := Ext.drew [] wb
      have odb : Own wb.drew dd #[.int .i64 0, .slice (some ⟨ob, 0, none⟩) E.length ml, .slice rb Rs.length rc] T_api_Did := Own.drew (Xb.own oda (by decide))
      refine LdL.mk odb rfl ?_
      have rowb : Row wb.drew mb ml mc 10 T_api_Msg (E.flatMap meC) := Row.ext hEb.row Ed (fun _ _ z => by cases z)
      refine rowToN rowb hx' (Pn.mk ⟨⟨by omega, by omega⟩, ?_⟩)
      rw [Int.toNat_natCast, add_mk, Nat.zero_add]
      refine Half.put (rc := outC (x.1.to, encM x.1)) ((ha.extT Xb (by decide)).ext Ed (by simp)) rfl (by omega) rfl fun wc hsc hac ec => ?_
      obtain ⟨c3, o3⟩ := ((ha.extT Xb (by decide)).ext Ed (by simp)).ty
      have tc := Tys.one o3
      have Xc : ExtT wb wc [T_api_Out] := (ExtT.nil Ed _).trans (ExtT.of ec tc)
      refine ⟨ml - (j + 1), by omega, j + 1, by omega, rfl, rfl, rfl, rfl, rfl, rfl, rfl, by rw [w64 (by omega) (by omega)]; omega, ?_, Xc.own (Xb.own oda (by decide)) (by decide), Xc.own (Xb.own ota (by decide)) (by decide), Xc.row (Xb.row ra (by decide)) (by decide), hxb.extT Xc (by decide), ?_, (fb.trans (Fr.of0 Ed)).fresh ec (by omega) (by omega)⟩
      · rw [take_succ' hx']
        have q : outsOf (E.take j ++ [x]) = outsOf (E.take j) ++ [(x.1.to, encM x.1)] := by simp [outsOf]
        rw [q, List.flatMap_append]
        simpa using hac
      · exact hEb.extT Xc (by decide) (by decide)
    · refine Bm.neg (decide_eq_false hlt) ?_
      have : j = ml := by omega
      subst this
      have htk : E.take j = E := List.take_of_length_le (by omega)
      rw [htk] at ha
      have hrow := ha.row (by rw [flat_length outC_len, hol]; omega)
      rw [← hlen] at hrow
      have hrow' : Row wa (some ⟨ob, 0, none⟩) E.length j 2 T_api_Out ((outsOf E).flatMap outC) := by
        rw [hlen] at hrow ⊢
        exact hrow
      exact ret oda ota hsz hrow' ra (fun y hy => by simp [rowBlk] at hy; omega) gr hxa fa
  -- no message
  have tail : ∀ {wx : World} {rb : Option Addr} {rc : Nat} {cs : Array Value}, Own wx dd #[.int .i64 0, .slice none 0 0, .slice rb Rs.length rc] T_api_Did → Own wx t4 cs T_api_Did → cs.size = 3 → Row wx rb Rs.length rc 4 T_api_Reply (Rs.flatMap repC) → (∀ y ∈ rowBlk rb, w.heap.size ≤ y) → NReal wx lo p kp k s l t d e D0 N L0 D F A n S raw Rs → ML wx mb ml mc lo2 E → w2.heap.size ≤ wx.heap.size → Fr NT lo w wx →
      Bm (decide (((ml : Nat) : Int) > 0)) (Vc.Make T_api_Out (.agg #[.int .i64 0, .string (ByteArray.mk #[])]) 2 24 ((ml : Nat) : Int) ((ml : Nat) : Int) wx fun b43 w5 => Sts [.slice (some ⟨b43, 0, none⟩) ((ml : Nat) : Int).toNat ((ml : Nat) : Int).toNat] ⟨dd, 1, none⟩ 0 w5 fun w6 => node_Node_did.L2 (some ⟨p, 0, none⟩) mb ml mc t4 dd 0 w6 R)
        (LdI .i64 ⟨dd, 0, none⟩ wx fun x71_0 => LdL ⟨dd, 1, none⟩ wx fun x71_1_b x71_1_l x71_1_c => LdL ⟨dd, 2, none⟩ wx fun x71_2_b x71_2_l x71_2_c => Sts [.int .i64 x71_0, .slice x71_1_b x71_1_l x71_1_c, .slice x71_2_b x71_2_l x71_2_c] ⟨t4, 0, none⟩ 0 wx fun w7 => LdI .i64 ⟨t4, 0, none⟩ w7 fun r_0 => LdL ⟨t4, 1, none⟩ w7 fun r_1_b r_1_l r_1_c => LdL ⟨t4, 2, none⟩ w7 fun r_2_b r_2_l r_2_c => R r_0 r_1_b r_1_l r_1_c r_2_b r_2_l r_2_c w7) := fun {wx rb rc cs} od ot hsz rr gr hx hEx hzx fx => by
    refine Bm.ite (fun hpos => outs (by omega) od ot hsz rr gr hx hEx hzx fx) fun hz => ?_
    have hE0 : E = [] := List.eq_nil_of_length_eq_zero (by omega)
    have od' : Own wx dd #[.int .i64 0, .slice none E.length 0, .slice rb Rs.length rc] T_api_Did := by rw [hE0]; exact od
    refine ret od' ot hsz ?_ rr (fun y hy => by cases hy) gr hx fx
    rw [hE0]
    exact Row.nil _ _ _
  refine h2.nd.ldN (Bm.ite (fun hpos => Pn.mk (h2.nd.ldN ?_)) fun hz => ?_)
  · refine Make.mk (by omega) (by omega) (by omega) (by omega) fun rb w3 hrb hs3 orr he3 => ?_
    have hh : Half w3 rb Rs.length 4 T_api_Reply [] 0 := Half.made (z := .agg #[.int .i64 0, .int .i64 0, .int .i64 0, .string (ByteArray.mk #[])]) (by rw [Int.toNat_natCast] at orr; exact orr)
    refine Sts.mk (he3.own od2 (by simp)) (by simp) rfl fun w4 hs4 od4 he4 => ?_
    have od4' : Own w4 dd #[.int .i64 0, .slice none 0 0, .slice (some ⟨rb, 0, none⟩) Rs.length Rs.length] T_api_Did := by
      rw [Int.toNat_natCast] at od4
      exact od4
    have t4' := Tys.one (he3.own od2 (by simp))
    have x4 : ExtT w2 w4 [T_api_Did] := (ExtT.nil he3 _).trans (ExtT.of he4 t4')
    have f4 : Fr NT lo w w4 := (Fr.of0 (E2.trans he3)).fresh he4 (by omega) (by omega)
    have ot4 := he4.own (he3.own ot2 (by simp)) (by simpa using htd)
    unfold node_Node_did.L1
    refine ⟨fun m p' mb' ml' mc' t4' dd' i w' => ∃ j : Nat, j ≤ Rs.length ∧ m = Rs.length - j ∧ some ⟨p, 0, none⟩ = p' ∧ mb = mb' ∧ ml = ml' ∧ mc = mc' ∧ t4 = t4' ∧ dd = dd' ∧ i = (j : Int) ∧ Half w' rb Rs.length 4 T_api_Reply ((Rs.take j).flatMap repC) j ∧ Own w' dd #[.int .i64 0, .slice none 0 0, .slice (some ⟨rb, 0, none⟩) Rs.length Rs.length] T_api_Did ∧ Own w' t4 _ T_api_Did ∧ NReal w' lo p kp k s l t d e D0 N L0 D F A n S raw Rs ∧ ML w' mb ml mc lo2 E ∧ w4.heap.size ≤ w'.heap.size ∧ Fr NT lo w w', _,
      ⟨0, by omega, rfl, rfl, rfl, rfl, rfl, rfl, rfl, rfl, by simpa using hh.ext he4 (by simp; omega), od4', ot4, h2.extT x4 (by decide), hE2.extT x4 (by decide) (by decide), Nat.le_refl _, f4⟩, ?_⟩
    rintro m p' mb' ml' mc' t4'' dd' i wa ⟨j, hj, rfl, rfl, rfl, rfl, rfl, rfl, rfl, rfl, ha, oda, ota, hxa, hEa, hza, fa⟩
    unfold node_Node_did.L1b
    refine Pn.mk (hxa.nd.ldN ?_)
    by_cases hlt : (j : Int) < (Rs.length : Int)
    · refine Bm.pos (decide_eq_true hlt) ?_
      have Ed := Ext.drew [] wa
      have oad : Own wa.drew dd #[.int .i64 0, .slice none 0 0, .slice (some ⟨rb, 0, none⟩) Rs.length Rs.length] T_api_Did := Own.drew oda
      have hxd := hxa.ext0 Ed
      obtain ⟨r, hr⟩ := get_lt' (L := Rs) (n := j) (by omega)
      refine LdL.mk oad rfl (Pn.mk ⟨⟨by omega, by omega⟩, repLd hxd.nd h.raw (by omega) hr (Pn.mk ⟨⟨by omega, by omega⟩, ?_⟩)⟩)
      rw [Int.toNat_natCast, add_mk, Nat.zero_add]
      refine Half.put (rc := repC r) (ha.ext Ed (by simp)) rfl (by omega) rfl fun wc hsc hac ec => ?_
      obtain ⟨c3, o3⟩ := (ha.ext Ed (by simp)).ty
      have Xc : ExtT wa wc [T_api_Reply] := (ExtT.nil Ed _).trans (ExtT.of ec (Tys.one o3))
      have zd : wa.drew.heap.size = wa.heap.size := rfl
      refine ⟨Rs.length - (j + 1), by omega, j + 1, by omega, rfl, rfl, rfl, rfl, rfl, rfl, rfl, by rw [w64 (by omega) (by omega)]; omega, ?_, Xc.own oda (by decide), Xc.own ota (by decide), hxa.extT Xc (by decide), hEa.extT Xc (by decide) (by decide), by omega, (fa.trans (Fr.of0 Ed)).fresh ec (by omega) (by omega)⟩
      rw [take_succ' hr, List.flatMap_append]
      simpa using hac
    · refine Bm.neg (decide_eq_false hlt) ?_
      have hjl : j = Rs.length := by omega
      subst hjl
      rw [List.take_length] at ha
      have hrow := ha.row (by rw [flat_length repC_len])
      exact tail oda ota rfl hrow (fun y hy => by simp [rowBlk] at hy; omega) hxa hEa (by omega) fa
  · have hR0 : Rs = [] := List.eq_nil_of_length_eq_zero (by omega)
    have od' : Own w2 dd #[.int .i64 0, .slice none 0 0, .slice none Rs.length 0] T_api_Did := by rw [hR0]; exact od2
    refine tail od' ot2 rfl ?_ (fun y hy => by cases hy) h2 hE2 (Nat.le_refl _) (Fr.of0 E2)
    rw [hR0]
    exact Row.nil _ _ _
end
end Go.Proofs.Qxb6500430aGreat
