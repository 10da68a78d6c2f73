/-
  kv: sessions; the real layer's state; New, Len, Val, Sess, KeyAt.
-/
import Derived.Test.Qxb6500430aGreatKvE
import Derived.Test.Qxb6500430aGreatCmd
set_option linter.unusedVariables false
open Go.Vc
namespace Go.Proofs.Qxb6500430aGreat.Kv

/-- A session: number, Errno, value. -/
abbrev Sess := Int × Int × ByteArray
def SessOk (s : Sess) : Prop := 0 ≤ s.1 ∧ s.1 ≤ 72057594037927936 ∧ 0 ≤ s.2.1 ∧ s.2.1 < 16 ∧ s.2.2.size ≤ 3
def zeroS : Sess := (0, 0, estr)
theorem zeroS_ok : SessOk zeroS := ⟨by decide, by decide, by decide, by decide, by decide⟩
def si (s : Sess) : Nat → Int
  | 0 => s.1
  | 1 => s.2.1
  | 2 => (s.2.2.size : Int)
  | 3 => byteAt s.2.2 0
  | 4 => byteAt s.2.2 1
  | 5 => byteAt s.2.2 2
  | _ => 0
def sv (s : Sess) : Nat → Value
  | 3 => .int .u8 (si s 3)
  | 4 => .int .u8 (si s 4)
  | 5 => .int .u8 (si s 5)
  | j => .int .i64 (si s j)
def sessVs (s : Sess) : List Value := [.int .i64 (si s 0), .int .i64 (si s 1), .int .i64 (si s 2), .int .u8 (si s 3), .int .u8 (si s 4), .int .u8 (si s 5)]
theorem sessVs_getD (s : Sess) {j : Nat} (h : j < 6) : (sessVs s).getD j undef = sv s j := by
  match j, h with
  | 0, _ | 1, _ | 2, _ | 3, _ | 4, _ | 5, _ => rfl
theorem sessVs_fn (s : Sess) : (sessVs s).toArray = fnArr 6 (sv s) := rfl
section
variable {w : World} {b o n m : Nat} {f : Nat → Value} {t : TypeId} {A : Addr}
theorem ld6 {s : Sess} {K : Int → Int → Int → Int → Int → Int → Prop} (h : Own w b (fnArr n f) t) (hA : A.add m = ⟨b, o, none⟩) (ho : o + 6 ≤ n) (hf : ∀ j, j < 6 → f (o + j) = sv s j)
    (hk : K (si s 0) (si s 1) (si s 2) (si s 3) (si s 4) (si s 5)) :
    LdI .i64 (A.add m) w fun x0 => LdI .i64 ((A.add m).add 1) w fun x1 => LdI .i64 ((A.add m).add 2) w fun x2 => LdI .u8 ((A.add m).add 3) w fun x3 => LdI .u8 ((A.add m).add 4) w fun x4 => LdI .u8 ((A.add m).add 5) w fun x5 => K x0 x1 x2 x3 x4 x5 := by
  rw [hA]
  simp only [add_mk]
  exact LdI.fn h (by omega) (hf 0 (by omega)) (LdI.fn h (by omega) (hf 1 (by omega)) (LdI.fn h (by omega) (hf 2 (by omega)) (LdI.fn h (by omega) (hf 3 (by omega)) (LdI.fn h (by omega) (hf 4 (by omega)) (LdI.fn h (by omega) (hf 5 (by omega)) hk)))))
theorem ld6b {s : Sess} {K : Int → Int → Int → Int → Int → Int → Prop} (h : Own w b (sessVs s).toArray t) (hk : K (si s 0) (si s 1) (si s 2) (si s 3) (si s 4) (si s 5)) :
    LdI .i64 ⟨b, 0, none⟩ w fun x0 => LdI .i64 ⟨b, 1, none⟩ w fun x1 => LdI .i64 ⟨b, 2, none⟩ w fun x2 => LdI .u8 ⟨b, 3, none⟩ w fun x3 => LdI .u8 ⟨b, 4, none⟩ w fun x4 => LdI .u8 ⟨b, 5, none⟩ w fun x5 => K x0 x1 x2 x3 x4 x5 :=
  LdI.mk h rfl (LdI.mk h rfl (LdI.mk h rfl (LdI.mk h rfl (LdI.mk h rfl (LdI.mk h rfl hk)))))
theorem st6 {s : Sess} {K : World → Prop} {g : Nat → Value} (h : Own w b (fnArr n f) t) (hA : A.add m = ⟨b, o, none⟩) (ho : o + 6 ≤ n) (hg : ∀ j, j < n → (if o ≤ j ∧ j < o + 6 then sv s (j - o) else f j) = g j)
    (hk : ∀ w', w'.heap.size = w.heap.size → Own w' b (fnArr n g) t → Ext [b] w w' → K w') : Sts (sessVs s) (A.add m) 0 w K := by
  rw [hA]
  refine Sts.fn h ho rfl (fun j hj => ?_) hk
  rw [← hg j hj]
  unfold fnPut
  show (if o ≤ j ∧ j < o + 6 then _ else _) = _
  split
  · rename_i hc
    exact sessVs_getD s (by omega)
  · rfl
end
/-! ### answers -/
def AnsB (w : World) (t : Nat) : Prop := ∃ x s, Own w t #[.int .i64 x, .string s] T_api_Ans
theorem AnsB.ext {w w' : World} {t : Nat} {S : List Nat} (h : AnsB w t) (he : Ext S w w') (hs : t ∉ S) : AnsB w' t := by
  obtain ⟨x, s, h⟩ := h
  exact ⟨x, s, he.own h hs⟩
theorem AnsB.ext0 {w w' : World} {t : Nat} (h : AnsB w t) (he : Ext [] w w') : AnsB w' t := h.ext he (by simp)
theorem AnsB.ret {w : World} {t : Nat} {x : Int} {s : ByteArray} {K : Int → ByteArray → World → Prop} (h : AnsB w t) (hk : ∀ w', Ext [t] w w' → K x s w') :
    Sts [.int .i64 x, .string s] ⟨t, 0, none⟩ 0 w fun w1 => LdI .i64 ⟨t, 0, none⟩ w1 fun r0 => LdS ⟨t, 1, none⟩ w1 fun r1 => K r0 r1 w1 := by
  obtain ⟨x0, s0, h⟩ := h
  exact Sts.full h rfl rfl fun w' hs ho he => LdI.mk ho rfl (LdS.mk ho rfl (hk w' he))
theorem up1 {w w1 w2 : World} {S : List Nat} {t : Nat} (h : Ext S w w1) (h2 : Ext [t] w1 w2) (ht : w.heap.size ≤ t) : Ext S w w2 := h.trans' h2 (fun y hy hl => by simp at hy; omega)
/-! ### mkSession, ansOf -/
def sw (s : Sess) (q : Nat) : Nat → Value
  | 0 => .int .i64 s.1
  | 1 => .int .i64 s.2.1
  | 2 => .int .i64 (q : Int)
  | 3 => .int .u8 (if 0 < q then byteAt s.2.2 0 else 0)
  | 4 => .int .u8 (if 1 < q then byteAt s.2.2 1 else 0)
  | 5 => .int .u8 (if 2 < q then byteAt s.2.2 2 else 0)
  | _ => undef
theorem sw_full {s : Sess} {j : Nat} (h : j < 6) : sw s s.2.2.size j = sv s j := by
  have key : ∀ (s : ByteArray) (i : Nat), (if i < s.size then byteAt s (i : Int) else 0) = byteAt s (i : Int) := fun s i => by
    split
    · rfl
    · rw [byteAt_over (by omega)]
  match j, h with
  | 0, _ => rfl
  | 1, _ => rfl
  | 2, _ => rfl
  | 3, _ => exact congrArg _ (key s.2.2 0)
  | 4, _ => exact congrArg _ (key s.2.2 1)
  | 5, _ => exact congrArg _ (key s.2.2 2)
theorem mkSession_ok {w : World} {s : Sess} (hv : s.2.2.size ≤ 3) {R : Int → Int → Int → Int → Int → Int → World → Prop}
    (hR : ∀ w', Ext [] w w' → R (si s 0) (si s 1) (si s 2) (si s 3) (si s 4) (si s 5) w') : kv_mkSession.Call s.1 s.2.1 s.2.2 w R := by
  apply kv_mkSession.sound
  unfold kv_mkSession.B0
  refine New.mk fun a w0 ha hs0 hoa he0 => New.mk fun t4 w1 ht4 hs1 ho4 he1 => LdI.mk (he1.own hoa (by simp)) rfl (NewSet.mk rfl rfl fun c w2 hc hs2 hoc he2 => ?_)
  have ho4' := he2.own ho4 (by simp)
  have hoa' := he2.own (he1.own hoa (by simp)) (by simp)
  have hoc' : Own w2 c (fnArr 6 (sw s 0)) T_kv_session := hoc
  have hge0 := he0.size
  have hge1 := he1.size
  refine ⟨fun m a' t4' c' i w' => ∃ n : Nat, n ≤ s.2.2.size ∧ m = s.2.2.size - n ∧ a = a' ∧ t4 = t4' ∧ c = c' ∧ i = (n : Int) ∧ Own w' a #[.int .i64 s.2.1, .string s.2.2] T_api_Ans ∧ Own w' c (fnArr 6 (sw s n)) T_kv_session ∧ (∃ x, Own w' t4 x T_kv_session ∧ x.size = 6) ∧ Ext [] w w', _,
    ⟨0, Nat.zero_le _, rfl, rfl, rfl, rfl, rfl, hoa', hoc', ⟨_, ho4', rfl⟩, (he0.trans he1).trans he2⟩, ?_⟩
  rintro m a' t4' c' i w' ⟨n, hn, rfl, rfl, rfl, rfl, rfl, hoa, ho, ⟨x, hx, hxs⟩, he⟩
  unfold kv_mkSession.L1b
  refine LdS.mk hoa rfl (Bm.ite (fun hlt => ?_) fun hge => ?_)
  · unfold kv_mkSession.B1
    rw [decide_eq_true (show ((n : Int)) < 3 by omega)]
    refine Bm.pos rfl (LdS.mk hoa rfl ⟨⟨by omega, hlt⟩, ⟨by omega, by omega⟩, ?_⟩)
    rw [add_mk, Int.toNat_natCast, Nat.mul_one]
    refine Sts.fn (g := fun j => if j = 3 + n then .int .u8 (byteAt s.2.2 (n : Int)) else sw s n j) ho (by simp; omega) rfl (fun j hj => by
      unfold fnPut
      by_cases e : j = 3 + n
      · subst e; simp
      · rw [if_neg (by simp; omega), if_neg e]) fun w3 hs3 ho3 he3 => ?_
    refine Sts.fn (g := sw s (n + 1)) ho3 (by simp) rfl (fun j hj => by
      rw [w64 (by omega) (by omega)]
      unfold fnPut
      have hn' : n = 0 ∨ n = 1 ∨ n = 2 := by omega
      rcases hn' with rfl | rfl | rfl <;>
      · match j, hj with
        | 0, _ | 1, _ | 2, _ | 3, _ | 4, _ | 5, _ => rfl) fun w4 hs4 ho4 he4 => ?_
    have hc3 : Ext [] w w3 := he.trans' he3 (fun y hy hlt => by simp at hy; omega)
    refine ⟨_, ?_, n + 1, by omega, rfl, rfl, rfl, rfl, by rw [w64 (by omega) (by omega)]; omega, he4.own (he3.own hoa (by simp; omega)) (by simp; omega), ho4, ⟨x, he4.own (he3.own hx (by simp; omega)) (by simp; omega), hxs⟩, hc3.trans' he4 (fun y hy hlt => by simp at hy; omega)⟩
    omega
  · have e : n = s.2.2.size := by omega
    subst e
    unfold kv_mkSession.B1
    rw [fnArr_congr (fun j hj => sw_full (s := s) hj), ← sessVs_fn] at ho
    exact Bm.neg rfl (ld6b ho (Sts.full (vs := sessVs s) hx hxs.symm rfl fun w3 hs3 ho3 he3 => ld6b ho3 (hR w3 (up1 he he3 (by omega)))))
theorem ansOf_ok {w : World} {s : Sess} (hsz : s.2.2.size ≤ 3) {R : Int → ByteArray → World → Prop} (hR : ∀ w', Ext [] w w' → R s.2.1 s.2.2 w') : kv_ansOf.Call (si s 0) (si s 1) (si s 2) (si s 3) (si s 4) (si s 5) w R := by
  apply kv_ansOf.sound
  unfold kv_ansOf.B0
  refine New.mk fun c w1 hc hs1 ho1 he1 => New.mk fun t2 w1' ht2 hs1' hot he1' => Buf.make (by omega) (by omega) fun r w2 hr hs2 hb2 he2 => ?_
  have ho2 : Own w2 c (sessVs s).toArray T_kv_session := he2.own (he1'.own ho1 (by simp)) (by simp)
  have hot2 : AnsB w2 t2 := ⟨_, _, he2.own hot (by simp)⟩
  have hge1 := he1.size
  have hge2 := he1'.size
  refine ⟨fun m c' t2' b l cp i w' => ∃ n : Nat, n ≤ s.2.2.size ∧ m = s.2.2.size - n ∧ c = c' ∧ t2 = t2' ∧ i = (n : Int) ∧ Own w' c (sessVs s).toArray T_kv_session ∧ AnsB w' t2 ∧ Buf w' b l cp ((strB s.2.2).take n) ∧ (∀ k ∈ rowBlk b, t2 < k) ∧ Ext [] w w', _,
    ⟨0, Nat.zero_le _, rfl, rfl, rfl, rfl, ho2, hot2, hb2, fun k hk => by simp [rowBlk] at hk; omega, (he1.trans he1').trans he2⟩, ?_⟩
  rintro m c' t2' b l cp i w' ⟨n, hn, rfl, rfl, rfl, rfl, ho, hot, hb, hlt, he⟩
  unfold kv_ansOf.L1b
  refine LdI.mk ho rfl ?_
  show Bm (decide ((n : Int) < (s.2.2.size : Int))) _ _
  refine Bm.ite (fun h => ?_) fun h => ?_
  · unfold kv_ansOf.B1
    rw [decide_eq_true (show ((n : Int)) < 3 by omega)]
    refine Bm.pos rfl ⟨⟨by omega, by omega⟩, ?_⟩
    rw [add_mk, Int.toNat_natCast, Nat.mul_one]
    have hcell : (sessVs s).toArray[3 + n]? = some (.int .u8 (byteAt s.2.2 (n : Int))) := by
      have hn' : n < 3 := by omega
      match n, hn' with
      | 0, _ | 1, _ | 2, _ => rfl
    refine LdI.mk ho hcell (Buf.app [byteAt s.2.2 (n : Int)] hb (IsB.one (byteAt_bd _ _)) (by
      rw [List.length_take]
      simp
      omega) fun b' c2 w3 hb3 he3 hg3 => ?_)
    rw [take_strB_succ (by omega)] at hb3
    obtain ⟨_, _, hoo⟩ := hot
    have hlt2 := hoo.lt
    refine ⟨_, ?_, n + 1, by omega, rfl, rfl, rfl, by rw [w64 (by omega) (by omega)]; omega, he3.own ho (fun hk => by have := hlt c hk; omega), ⟨_, _, he3.own hoo (fun hk => by have := hlt t2 hk; omega)⟩, hb3, fun k hk => ?_, he.trans' he3 fun k hk hl => by have := hlt k hk; omega⟩
    · omega
    · rcases hg3 k hk with h1 | h1
      · exact hlt k h1
      · omega
  · unfold kv_ansOf.B1
    refine Bm.neg rfl (LdI.mk ho rfl (hb.str ?_))
    have e : (strB s.2.2).take n = strB s.2.2 := List.take_of_length_le (by rw [strB_length]; omega)
    rw [e, bStr_strB]
    exact hot.ret fun w3 he3 => hR w3 (up1 he he3 (by omega))
/-! ### the layer -/
abbrev Ss := Nat → Sess
def updS (S : Ss) (i : Nat) (s : Sess) : Ss := fun j => if j = i then s else S j
theorem updS_eq (S : Ss) (i : Nat) (s : Sess) : updS S i s i = s := by simp [updS]
theorem updS_ne {S : Ss} {i j : Nat} {s : Sess} (h : j ≠ i) : updS S i s j = S j := by simp [updS, h]
def sessR (S : Ss) (o : Nat) : Value := sv (S ((o - 66) / 6)) ((o - 66) % 6)
structure KvOk (A : List Pair) (S : Ss) : Prop where
  a : AOk A
  le : A.length ≤ 4
  s : ∀ i, i < 3 → SessOk (S i)
def RealAt (w : World) (b : Nat) (A : List Pair) (S : Ss) : Prop := ∃ T m, Tab w b 84 T_kv_KV (sessR S) T (A.length : Int) m ∧ TGood T (A.length : Int) m ∧ (Lv T).Perm A
theorem RealAt.ext {w w' : World} {b : Nat} {A : List Pair} {S : Ss} {X : List Nat} (h : RealAt w b A S) (he : Ext X w w') (hb : b ∉ X) : RealAt w' b A S := by
  obtain ⟨T, m, h, hg, hp⟩ := h
  exact ⟨T, m, h.ext he hb, hg, hp⟩
theorem RealAt.ext0 {w w' : World} {b : Nat} {A : List Pair} {S : Ss} (h : RealAt w b A S) (he : Ext [] w w') : RealAt w' b A S := h.ext he (by simp)
theorem RealAt.drew {w : World} {b : Nat} {A : List Pair} {S : Ss} (h : RealAt w b A S) : RealAt w.drew b A S := h.ext0 (Ext.drew _ _)
theorem RealAt.lt {w : World} {b : Nat} {A : List Pair} {S : Ss} (h : RealAt w b A S) : b < w.heap.size := by
  obtain ⟨T, m, h, _⟩ := h
  exact h.lt
theorem tab_sess {rest : Nat → Value} {S : Ss} {T : Tb} {l m : Int} {i j : Nat} (hi : i < 3) (hj : j < 6) : tabF (sessR S) T l m (66 + i * 6 + j) = sv (S i) j := by
  unfold tabF sessR
  rw [if_neg (by omega), if_neg (by omega), if_neg (by omega), show (66 + i * 6 + j - 66) / 6 = i by omega, show (66 + i * 6 + j - 66) % 6 = j by omega]
theorem tab_sput {S : Ss} {T : Tb} {l m : Int} {i o : Nat} {s : Sess} (hi : i < 3) : (if 66 + i * 6 ≤ o ∧ o < 66 + i * 6 + 6 then sv s (o - (66 + i * 6)) else tabF (sessR S) T l m o) = tabF (sessR (updS S i s)) T l m o := by
  unfold tabF sessR
  by_cases h : 66 + i * 6 ≤ o ∧ o < 66 + i * 6 + 6
  · rw [if_pos h, if_neg (by omega), if_neg (by omega), if_neg (by omega), show (o - 66) / 6 = i by omega, updS_eq, show (o - 66) % 6 = o - (66 + i * 6) by omega]
  · rw [if_neg h]
    by_cases h66 : o < 66
    · by_cases h64 : o < 64
      · rw [if_pos h64, if_pos h64]
      · rw [if_neg h64, if_neg h64]
        by_cases h65 : o = 64
        · rw [if_pos h65, if_pos h65]
        · rw [if_neg h65, if_neg h65, if_pos (by omega), if_pos (by omega)]
    · rw [if_neg (by omega), if_neg (by omega), if_neg (by omega), if_neg (by omega), if_neg (by omega), if_neg (by omega), updS_ne (by omega)]
section
variable {w : World} {b : Nat} {A : List Pair} {S : Ss}
theorem Tab.ldSess {T : Tb} {l m : Int} {i : Nat} {K : Int → Int → Int → Int → Int → Int → Prop} (h : Tab w b 84 T_kv_KV (sessR S) T l m) (hi : i < 3) (hk : K (si (S i) 0) (si (S i) 1) (si (S i) 2) (si (S i) 3) (si (S i) 4) (si (S i) 5)) :
    LdI .i64 (Addr.add (Addr.add ⟨b, 0, none⟩ 66) ((i : Int).toNat * 6)) w fun x0 => LdI .i64 ((Addr.add (Addr.add ⟨b, 0, none⟩ 66) ((i : Int).toNat * 6)).add 1) w fun x1 => LdI .i64 ((Addr.add (Addr.add ⟨b, 0, none⟩ 66) ((i : Int).toNat * 6)).add 2) w fun x2 => LdI .u8 ((Addr.add (Addr.add ⟨b, 0, none⟩ 66) ((i : Int).toNat * 6)).add 3) w fun x3 => LdI .u8 ((Addr.add (Addr.add ⟨b, 0, none⟩ 66) ((i : Int).toNat * 6)).add 4) w fun x4 => LdI .u8 ((Addr.add (Addr.add ⟨b, 0, none⟩ 66) ((i : Int).toNat * 6)).add 5) w fun x5 => K x0 x1 x2 x3 x4 x5 :=
  ld6 (o := 66 + i * 6) h.1 (by rw [add_mk, add_mk, Int.toNat_natCast, Nat.zero_add]) (by omega) (fun j hj => tab_sess (rest := sessR S) hi hj) hk
theorem Tab.ldSeq {T : Tb} {l m : Int} {i : Nat} {K : Int → Prop} (h : Tab w b 84 T_kv_KV (sessR S) T l m) (hi : i < 3) (hk : K (S i).1) : LdI .i64 (Addr.add (Addr.add ⟨b, 0, none⟩ 66) ((i : Int).toNat * 6)) w K := by
  rw [add_mk, add_mk, Int.toNat_natCast, Nat.zero_add]
  exact LdI.fn h.1 (by omega) (by rw [show 66 + i * 6 = 66 + i * 6 + 0 by omega, tab_sess (rest := sessR S) hi (by omega)]; rfl) hk
theorem Tab.stSess {T : Tb} {l m : Int} {i : Nat} {s : Sess} {K : World → Prop} (h : Tab w b 84 T_kv_KV (sessR S) T l m) (hi : i < 3) (hk : ∀ w', w'.heap.size = w.heap.size → Tab w' b 84 T_kv_KV (sessR (updS S i s)) T l m → Ext [b] w w' → K w') : Sts (sessVs s) (Addr.add (Addr.add ⟨b, 0, none⟩ 66) ((i : Int).toNat * 6)) 0 w K :=
  st6 (o := 66 + i * 6) h.1 (by rw [add_mk, add_mk, Int.toNat_natCast, Nat.zero_add]) (by omega) (fun j hj => tab_sput hi) fun w' hs ho he => hk w' hs ⟨ho, h.2⟩ he
theorem realNew_ok {R : Option Addr → World → Prop} (hR : ∀ x w', x = w.heap.size → RealAt w' x [] (fun _ => zeroS) → Ext [] w w' → R (some ⟨x, 0, none⟩) w') : kv_New.Call w R := by
  apply kv_New.sound
  unfold kv_New.B0
  refine New.mk fun x w1 hx hs ho he => hR x w1 hx ⟨fun _ => none, 0, ⟨?_, by omega⟩, ⟨TInv.empty, rfl, rfl, by decide, by decide⟩, by rw [Lv_empty]⟩ he
  exact ho
theorem kvOk_new : KvOk [] (fun _ => zeroS) := ⟨⟨List.Pairwise.nil, fun p hp => by cases hp⟩, by decide, fun i _ => zeroS_ok⟩
theorem realLen_ok {R : Int → World → Prop} (h : RealAt w b A S) (hR : R (A.length : Int) w) : kv_KV_Len.Call (some ⟨b, 0, none⟩) w R := by
  apply kv_KV_Len.sound
  unfold kv_KV_Len.B0
  obtain ⟨T, m, h, _⟩ := h
  exact Pn.mk (h.ldL hR)
/-- The value of a key. -/
def lookA (A : List Pair) (k : ByteArray) : Option ByteArray := (A.find? fun q => decide (q.1 = k)).map (·.2)
theorem lookA_none {A : List Pair} {k : ByteArray} (h : ∀ x ∈ A, x.1 ≠ k) : lookA A k = none := by
  unfold lookA
  rw [List.find?_eq_none.2 fun x hx => by simp [h x hx]]
  rfl
theorem lookA_some {A : List Pair} (h : AOk A) {q : Pair} (hq : q ∈ A) : lookA A q.1 = some q.2 := by
  obtain ⟨i, hi⟩ := List.getElem?_of_mem hq
  obtain ⟨s, t, rfl, _, hx⟩ := A_split h hi
  unfold lookA
  rw [List.find?_append, List.find?_eq_none.2 fun x h => by simp [hx x (.inl h)]]
  simp
theorem lookA_inv {A : List Pair} {k v : ByteArray} (h : lookA A k = some v) : (k, v) ∈ A := by
  unfold lookA at h
  rw [Option.map_eq_some_iff] at h
  obtain ⟨q, hq, rfl⟩ := h
  have h1 := List.find?_some hq
  have h2 := List.mem_of_find?_eq_some hq
  simp only [decide_eq_true_eq] at h1
  subst h1
  exact h2
/-- find over the layer. -/
theorem RealAt.find {T : Tb} {m : Int} {k : ByteArray} {R : Int → World → Prop} (h : Tab w b 84 T_kv_KV (sessR S) T (A.length : Int) m) (hg : TGood T (A.length : Int) m) (hp : (Lv T).Perm A) (hA : AOk A) (hk : k.size ≤ 281474976710656)
    (hR : ∀ w', Ext [] w w' → (∀ i v, i < 8 → T i = some (some (k, v)) → lookA A k = some v → R (i : Int) w') ∧ ((∀ x ∈ A, x.1 ≠ k) → R (-1) w')) : kv_table_find.Call (some ⟨b, 0, none⟩) k w R := by
  refine find_ok h hg.inv hk fun w' he => ⟨fun i p hi hT hpk => ?_, fun ha => (hR w' he).2 ((absent_iff hp).1 ha)⟩
  subst hpk
  exact (hR w' he).1 i p.2 hi hT (lookA_some hA (hp.subset (mem_Lv.2 ⟨i, hi, hT⟩)))
theorem realVal_ok {k : ByteArray} {R : ByteArray → Bool → World → Prop} (h : RealAt w b A S) (hk : KvOk A S)
    (hR : ∀ w', Ext [] w w' → R ((lookA A k).getD estr) (lookA A k).isSome w') : kv_KV_Val.Call (some ⟨b, 0, none⟩) k w R := by
  apply kv_KV_Val.sound
  unfold kv_KV_Val.B0
  obtain ⟨T, m, h, hg, hp⟩ := h
  refine Bm.ite (fun hlen => ?_) fun hlen => Pn.mk (RealAt.find h hg hp hk.a (by omega) fun w1 he1 => ⟨fun i v hi hT hl => ?_, fun ha => ?_⟩)
  · have : lookA A k = none := lookA_none fun x hx e => by
      have := (hk.a.2 x hx).2.1
      rw [e] at this
      omega
    have h2 := hR w (Ext.refl _ _)
    rw [this] at h2
    exact h2
  · refine Bm.neg (decide_eq_false (by omega)) (Pn.mk ⟨⟨by omega, by omega⟩, (h.ext0 he1).ld hi ?_⟩)
    rw [hT]
    refine valOf_ok (hg.inv.ok i hi _ hT) fun w2 he2 => ?_
    have h2 := hR w2 (he1.trans he2)
    rw [hl] at h2
    exact h2
  · refine Bm.pos (by decide) ?_
    have h2 := hR w1 he1
    rw [lookA_none ha] at h2
    exact h2
theorem realSess_ok {c : Int} {R : Int → Int → ByteArray → World → Prop} (h : RealAt w b A S) (hk : KvOk A S)
    (hR : ∀ w', Ext [] w w' → R (if 0 ≤ c ∧ c < 3 then (S c.toNat).1 else 0) (if 0 ≤ c ∧ c < 3 then (S c.toNat).2.1 else 0) (if 0 ≤ c ∧ c < 3 then (S c.toNat).2.2 else estr) w') : kv_KV_Sess.Call (some ⟨b, 0, none⟩) c w R := by
  apply kv_KV_Sess.sound
  unfold kv_KV_Sess.B0
  obtain ⟨T, m, h, hg, hp⟩ := h
  refine New.mk fun t5 w1 ht5 hs1 ho1 he1 => ?_
  have ha : AnsB w1 t5 := ⟨_, _, ho1⟩
  have bad : ¬ (0 ≤ c ∧ c < 3) → kv_KV_Sess.B1 (some ⟨b, 0, none⟩) c t5 true w1 R := fun hn => by
    unfold kv_KV_Sess.B1
    refine Bm.pos rfl (AnsB.ret (K := fun x s w => R 0 x s w) ha fun w2 he2 => ?_)
    have := hR w2 (up1 he1 he2 (by omega))
    rw [if_neg hn, if_neg hn, if_neg hn] at this
    exact this
  refine Bm.ite (fun hlt => bad (by omega)) fun hge => ?_
  by_cases h3 : c ≥ 3
  · rw [decide_eq_true h3]
    exact bad (by omega)
  rw [decide_eq_false h3]
  unfold kv_KV_Sess.B1
  obtain ⟨i, rfl⟩ : ∃ i : Nat, c = i := ⟨c.toNat, by omega⟩
  have hi : i < 3 := by omega
  have hlt := h.lt
  refine Bm.neg rfl (Pn.mk ⟨⟨by omega, by omega⟩, (h.ext0 he1).ldSess hi (NewSet.mk rfl rfl fun q w3 hq hs3 ho3 he3 => ?_)⟩)
  have hoq : Own w3 q (sessVs (S i)).toArray T_kv_session := ho3
  refine LdI.mk hoq.drew rfl (ld6b hoq.drew (ansOf_ok (hk.s i hi).2.2.2.2 fun w4 he4 => ⟨(he4.own hoq.drew (by simp)).cell rfl, ?_⟩))
  have hee : Ext [] w1 w4 := (he3.trans (Ext.drew _ _)).trans he4
  refine AnsB.ret (K := fun x s w => R (si (S i) 0) x s w) (ha.ext0 hee) fun w5 he5 => ?_
  have := hR w5 (up1 (he1.trans hee) he5 (by omega))
  rw [if_pos ⟨by omega, by omega⟩, if_pos ⟨by omega, by omega⟩, if_pos ⟨by omega, by omega⟩, Int.toNat_natCast] at this
  exact this
def keyA (A : List Pair) (i : Int) : ByteArray := if 0 ≤ i ∧ i < A.length then (A.getD i.toNat (estr, estr)).1 else estr
theorem realKeyAt_ok {i : Int} {R : ByteArray → World → Prop} (h : RealAt w b A S) (hk : KvOk A S)
    (hR : ∀ w', Ext [] w w' → R (keyA A i) w') : kv_KV_KeyAt.Call (some ⟨b, 0, none⟩) i w R := by
  apply kv_KV_KeyAt.sound
  unfold kv_KV_KeyAt.B0
  obtain ⟨T, m, h, hg, hp⟩ := h
  have hle := hk.le
  have bad : ¬ (0 ≤ i ∧ i < A.length) → kv_KV_KeyAt.B1 (some ⟨b, 0, none⟩) i true w R := fun hn => by
    unfold kv_KV_KeyAt.B1
    refine Bm.pos rfl ?_
    have := hR w (Ext.refl _ _)
    unfold keyA at this
    rw [if_neg hn] at this
    exact this
  refine Bm.ite (fun hlt => bad (by omega)) fun hge => Pn.mk (h.ldL (Bm.ite (fun hlt => bad (by omega)) fun hlt => ?_))
  rw [decide_eq_false (by omega)]
  unfold kv_KV_KeyAt.B1
  obtain ⟨j, rfl⟩ : ∃ j : Nat, i = j := ⟨i.toNat, by omega⟩
  have hj : j < A.length := by omega
  refine Bm.neg rfl (Pn.mk (sorted_ok h hg.inv (by rw [hp.length_eq]; omega) hk.a hp fun w1 x0 x1 x2 x3 hx he1 => NewSet.mk rfl rfl fun a w2 ha hs2 ho2 he2 => ⟨⟨by omega, by omega⟩, ?_⟩))
  obtain ⟨q, hq⟩ : ∃ q, A[j]? = some q := ⟨_, List.getElem?_eq_getElem hj⟩
  obtain ⟨i, hi, hL, hT⟩ := hx j q hq
  have hat : At4 w2 a [x0, x1, x2, x3] := ⟨ho2, rfl⟩
  refine At4.ld ⟨hat.1.drew, hat.2⟩ hL (Pn.mk ⟨⟨by omega, by omega⟩, ((h.ext0 (he1.trans he2)).drew).ld hi ?_⟩)
  rw [hT]
  refine keyOf_ok (hg.inv.ok i hi _ hT) fun w4 he4 => ?_
  have := hR w4 (((he1.trans he2).trans (Ext.drew _ _)).trans he4)
  unfold keyA at this
  rw [if_pos ⟨by omega, by omega⟩, Int.toNat_natCast] at this
  simp only [List.getD, hq, Option.getD_some] at this
  exact this
end
end Go.Proofs.Qxb6500430aGreat.Kv
