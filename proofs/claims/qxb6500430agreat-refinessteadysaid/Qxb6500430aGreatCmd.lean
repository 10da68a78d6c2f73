/-
  api: commands: CmdOK, EncodeCmd, DecodeCmd.
-/
import Derived.Test.Qxb6500430aGreatCod
set_option linter.unusedVariables false
open Go.Vc
namespace Go.Proofs.Qxb6500430aGreat.Kv

structure CmdS where
  op : Int
  cl : Int
  seq : Int
  key : ByteArray
  val : ByteArray
  old : ByteArray
def CmdP (c : CmdS) : Prop := (1 ≤ c.op ∧ c.op ≤ 4 ∧ 0 ≤ c.cl ∧ c.cl < 3 ∧ 1 ≤ c.seq ∧ c.seq ≤ 72057594037927936) ∧ (1 ≤ c.key.size ∧ c.key.size ≤ 2 ∧ c.val.size ≤ 3 ∧ c.old.size ≤ 3) ∧ ((c.op = 2 ∨ c.op = 3) → c.val = estr) ∧ (c.op = 4 ∨ c.old = estr)
def cmdOk (c : CmdS) : Bool := decide ((1 ≤ c.op ∧ c.op ≤ 4 ∧ 0 ≤ c.cl ∧ c.cl < 3 ∧ 1 ≤ c.seq ∧ c.seq ≤ 72057594037927936) ∧ (1 ≤ c.key.size ∧ c.key.size ≤ 2 ∧ c.val.size ≤ 3 ∧ c.old.size ≤ 3) ∧ ((c.op = 2 ∨ c.op = 3) → c.val = estr) ∧ (c.op = 4 ∨ c.old = estr))
theorem cmdOk_true {c : CmdS} : cmdOk c = true ↔ CmdP c := decide_eq_true_iff
theorem cmdOk_pos {c : CmdS} (h : CmdP c) : cmdOk c = true := cmdOk_true.2 h
theorem cmdOk_neg {c : CmdS} (h : ¬ CmdP c) : cmdOk c = false := by
  cases e : cmdOk c with
  | false => rfl
  | true => exact absurd (cmdOk_true.1 e) h
def cmdVs (c : CmdS) : List Value := [.int .i64 c.op, .int .i64 c.cl, .int .i64 c.seq, .string c.key, .string c.val, .string c.old]
def CmdAt (w : World) (b : Nat) (c : CmdS) : Prop := Own w b (cmdVs c).toArray T_api_Cmd
theorem CmdAt.ext {w w' : World} {b : Nat} {c : CmdS} {S : List Nat} (h : CmdAt w b c) (he : Ext S w w') (hs : b ∉ S) : CmdAt w' b c := he.own h hs
theorem CmdAt.ext0 {w w' : World} {b : Nat} {c : CmdS} (h : CmdAt w b c) (he : Ext [] w w') : CmdAt w' b c := he.own h (by simp)
theorem CmdAt.drew {w : World} {b : Nat} {c : CmdS} (h : CmdAt w b c) : CmdAt w.drew b c := Own.drew h
section
variable {w : World} {b : Nat} {c : CmdS}
theorem CmdAt.l0 {K : Int → Prop} (h : CmdAt w b c) (hk : K c.op) : LdI .i64 ⟨b, 0, none⟩ w K := LdI.mk h rfl hk
theorem CmdAt.l1 {K : Int → Prop} (h : CmdAt w b c) (hk : K c.cl) : LdI .i64 ⟨b, 1, none⟩ w K := LdI.mk h rfl hk
theorem CmdAt.l2 {K : Int → Prop} (h : CmdAt w b c) (hk : K c.seq) : LdI .i64 ⟨b, 2, none⟩ w K := LdI.mk h rfl hk
theorem CmdAt.l3 {K : ByteArray → Prop} (h : CmdAt w b c) (hk : K c.key) : LdS ⟨b, 3, none⟩ w K := LdS.mk h rfl hk
theorem CmdAt.l4 {K : ByteArray → Prop} (h : CmdAt w b c) (hk : K c.val) : LdS ⟨b, 4, none⟩ w K := LdS.mk h rfl hk
theorem CmdAt.l5 {K : ByteArray → Prop} (h : CmdAt w b c) (hk : K c.old) : LdS ⟨b, 5, none⟩ w K := LdS.mk h rfl hk
theorem CmdAt.all {K : Int → Int → Int → ByteArray → ByteArray → ByteArray → Prop} (h : CmdAt w b c) (hk : K c.op c.cl c.seq c.key c.val c.old) :
    LdI .i64 ⟨b, 0, none⟩ w fun x0 => LdI .i64 ⟨b, 1, none⟩ w fun x1 => LdI .i64 ⟨b, 2, none⟩ w fun x2 => LdS ⟨b, 3, none⟩ w fun x3 => LdS ⟨b, 4, none⟩ w fun x4 => LdS ⟨b, 5, none⟩ w fun x5 => K x0 x1 x2 x3 x4 x5 :=
  h.l0 (h.l1 (h.l2 (h.l3 (h.l4 (h.l5 hk)))))
theorem cmdOK_ok {R : Bool → World → Prop} (hR : ∀ w', Ext [] w w' → R (cmdOk c) w') : api_CmdOK.Call c.op c.cl c.seq c.key c.val c.old w R := by
  apply api_CmdOK.sound
  unfold api_CmdOK.B0
  refine New.mk fun a w1 ha hs1 ho1 he1 => ?_
  have h : CmdAt w1 a c := ho1
  have bad : ¬ CmdP c → R false w1 := fun hn => by rw [← cmdOk_neg hn]; exact hR w1 he1
  have b1 : ¬ CmdP c → api_CmdOK.B1 a true w1 R := fun hn => by unfold api_CmdOK.B1; exact Bm.pos rfl (bad hn)
  have b2 : ¬ CmdP c → api_CmdOK.B2 a true w1 R := fun hn => by unfold api_CmdOK.B2; exact Bm.pos rfl (bad hn)
  refine h.l0 (Bm.ite (fun x => b1 fun q => by have := q.1; omega) fun x1 => h.l0 (Bm.ite (fun x => b1 fun q => by have := q.1; omega) fun x2 => h.l1 (Bm.ite (fun x => b1 fun q => by have := q.1; omega) fun x3 => h.l1 (Bm.ite (fun x => b1 fun q => by have := q.1; omega) fun x4 => h.l2 (Bm.ite (fun x => b1 fun q => by have := q.1; omega) fun x5 => h.l2 ?_)))))
  by_cases x6 : c.seq > 72057594037927936
  · rw [decide_eq_true x6]
    exact b1 fun q => by have := q.1; omega
  rw [decide_eq_false x6]
  unfold api_CmdOK.B1
  refine Bm.neg rfl (h.l3 (Bm.ite (fun x => b2 fun q => by have := q.2.1; omega) fun x7 => h.l3 (Bm.ite (fun x => b2 fun q => by have := q.2.1; omega) fun x8 => h.l4 (Bm.ite (fun x => b2 fun q => by have := q.2.1; omega) fun x9 => h.l5 ?_))))
  by_cases x10 : ((c.old.size : Nat) : Int) > 3
  · rw [decide_eq_true x10]
    exact b2 fun q => by have := q.2.1; omega
  rw [decide_eq_false x10]
  unfold api_CmdOK.B2
  have fin : ((c.op = 2 ∨ c.op = 3) → c.val = estr) → api_CmdOK.B3 a false w1 R := fun hv => by
    unfold api_CmdOK.B3
    refine Bm.neg rfl (h.l0 (Bm.mk (fun e => ?_) fun e => h.l5 ?_))
    · have e4 : c.op = 4 := by simpa using e
      have := hR w1 he1
      rw [cmdOk_pos ⟨⟨by omega, by omega, by omega, by omega, by omega, by omega⟩, ⟨by omega, by omega, by omega, by omega⟩, hv, .inl e4⟩] at this
      exact this
    · have e4 : c.op ≠ 4 := by simpa using e
      rw [str_beq]
      show R (decide (c.old = estr)) w1
      by_cases ho : c.old = estr
      · rw [decide_eq_true ho, ← cmdOk_pos (c := c) ⟨⟨by omega, by omega, by omega, by omega, by omega, by omega⟩, ⟨by omega, by omega, by omega, by omega⟩, hv, .inr ho⟩]
        exact hR w1 he1
      · rw [decide_eq_false ho]
        refine bad fun q => ?_
        rcases q.2.2.2 with q | q
        · exact e4 q
        · exact ho q
  have mid : (c.op = 2 ∨ c.op = 3) → api_CmdOK.B3 a (!(c.val.toList == (ByteArray.mk #[]).toList)) w1 R := fun ho => by
    rw [str_beq]
    show api_CmdOK.B3 a (!decide (c.val = estr)) w1 R
    by_cases hv : c.val = estr
    · rw [decide_eq_true hv]
      exact fin fun _ => hv
    · rw [decide_eq_false hv]
      unfold api_CmdOK.B3
      exact Bm.pos rfl (bad fun q => hv (q.2.2.1 ho))
  refine Bm.neg rfl (h.l0 (Bm.mk (fun e => h.l4 (mid (.inl (by simpa using e)))) fun e2 => h.l0 (Bm.mk (fun e => h.l4 (mid (.inr (by simpa using e)))) fun e3 => fin ?_)))
  have e2' : c.op ≠ 2 := by simpa using e2
  have e3' : c.op ≠ 3 := by simpa using e3
  rintro (q | q)
  · exact absurd q e2'
  · exact absurd q e3'
/-! ### EncodeCmd -/
def encCmd (c : CmdS) : ByteArray := if cmdOk c then bStr ([c.op, c.cl] ++ enc8 c.seq ++ putS c.key ++ putS c.val ++ putS c.old) else ByteArray.mk #[0]
theorem encodeCmd_ok {R : ByteArray → World → Prop} (hR : ∀ w', Ext [] w w' → R (encCmd c) w') : api_EncodeCmd.Call c.op c.cl c.seq c.key c.val c.old w R := by
  apply api_EncodeCmd.sound
  unfold api_EncodeCmd.B0
  refine New.mk fun a w1 ha hs1 ho1 he1 => ?_
  have h : CmdAt w1 a c := ho1
  refine h.all (cmdOK_ok fun w2 he2 => ?_)
  have he := he1.trans he2
  cases hok : cmdOk c with
  | false =>
    refine Bm.pos rfl ?_
    have := hR w2 he
    unfold encCmd at this
    rw [hok] at this
    exact this
  | true =>
    have hp := cmdOk_true.1 hok
    refine Bm.neg rfl (Buf.make (by omega) (by omega) fun r w3 hr hs3 hb3 he3 => ?_)
    have h2 := (h.ext0 he2).ext0 he3
    refine h2.l0 (h2.l1 ?_)
    rw [wrap8_id (x := c.op) (by have := hp.1; omega) (by have := hp.1; omega), wrap8_id (x := c.cl) (by have := hp.1; omega) (by have := hp.1; omega)]
    refine Buf.app [c.op, c.cl] hb3 (fun x hx => by
      rcases List.mem_cons.1 hx with rfl | hx
      · have := hp.1; omega
      · rw [List.mem_singleton] at hx; subst hx; have := hp.1; omega) (by simp) fun b4 c4 w4 hb4 he4 hg4 => ?_
    have ar : a < r := by have := h.ext0 he2; have := Own.lt this; omega
    have m0 : ∀ k ∈ rowBlk (some (⟨r, 0, none⟩ : Addr)), a < k := fun k hk => by simp [rowBlk] at hk; omega
    have m4 : ∀ k ∈ rowBlk b4, a < k := fun k hk => by
      rcases hg4 k hk with h1 | h1
      · exact m0 k h1
      · have := Own.lt h2; omega
    have h4 := h2.ext he4 (fun hk => by have := m0 a hk; omega)
    have n0 : ∀ k ∈ rowBlk (some (⟨r, 0, none⟩ : Addr)), w2.heap.size ≤ k := fun k hk => by simp [rowBlk] at hk; omega
    have n4 : ∀ k ∈ rowBlk b4, w2.heap.size ≤ k := fun k hk => by
      rcases hg4 k hk with h1 | h1
      · exact n0 k h1
      · have := he3.size; omega
    have e4 : Ext [] w2 w4 := he3.trans' he4 (fun x hx hl => by have := n0 x hx; omega)
    refine h4.l2 (putU64_ok hb4 (by have := hp.1; omega) (by simp) fun b5 l5 c5 w5 hb5 he5 hg5 => ?_)
    have m5 : ∀ k ∈ rowBlk b5, a < k := fun k hk => by
      rcases hg5 k hk with h1 | h1
      · exact m4 k h1
      · have := Own.lt h4; omega
    have n5 : ∀ k ∈ rowBlk b5, w2.heap.size ≤ k := fun k hk => by
      rcases hg5 k hk with h1 | h1
      · exact n4 k h1
      · have := e4.size; omega
    have h5 := h4.ext he5 (fun hk => by have := m4 a hk; omega)
    have e5 : Ext [] w2 w5 := e4.trans' he5 (fun x hx hl => by have := n4 x hx; omega)
    refine h5.l3 (putStr_ok hb5 (by have := hp.2.1; omega) (by simp [enc8]) fun b6 l6 c6 w6 hb6 he6 hg6 => ?_)
    have m6 : ∀ k ∈ rowBlk b6, a < k := fun k hk => by
      rcases hg6 k hk with h1 | h1
      · exact m5 k h1
      · have := Own.lt h5; omega
    have n6 : ∀ k ∈ rowBlk b6, w2.heap.size ≤ k := fun k hk => by
      rcases hg6 k hk with h1 | h1
      · exact n5 k h1
      · have := e5.size; omega
    have h6 := h5.ext he6 (fun hk => by have := m5 a hk; omega)
    have e6 : Ext [] w2 w6 := e5.trans' he6 (fun x hx hl => by have := n5 x hx; omega)
    refine h6.l4 (putStr_ok hb6 (by have := hp.2.1; omega) (by simp [enc8, strB_length]; have := hp.2.1; omega) fun b7 l7 c7 w7 hb7 he7 hg7 => ?_)
    have m7 : ∀ k ∈ rowBlk b7, a < k := fun k hk => by
      rcases hg7 k hk with h1 | h1
      · exact m6 k h1
      · have := Own.lt h6; omega
    have n7 : ∀ k ∈ rowBlk b7, w2.heap.size ≤ k := fun k hk => by
      rcases hg7 k hk with h1 | h1
      · exact n6 k h1
      · have := e6.size; omega
    have h7 := h6.ext he7 (fun hk => by have := m6 a hk; omega)
    have e7 : Ext [] w2 w7 := e6.trans' he7 (fun x hx hl => by have := n6 x hx; omega)
    refine h7.l5 (putStr_ok hb7 (by have := hp.2.1; omega) (by simp [enc8, strB_length]; have := hp.2.1; omega) fun b8 l8 c8 w8 hb8 he8 hg8 => hb8.str ?_)
    have e8 : Ext [] w2 w8 := e7.trans' he8 (fun x hx hl => by have := n7 x hx; omega)
    have := hR w8 (he.trans e8)
    unfold encCmd at this
    rw [hok, if_pos rfl] at this
    exact this
/-! ### DecodeCmd -/
def cmdG3 (k v o : ByteArray) (L : List Int) : Option (ByteArray × ByteArray × ByteArray) := if L = [] then some (k, v, o) else none
def cmdG2 (k v : ByteArray) (L : List Int) : Option (ByteArray × ByteArray × ByteArray) := (takeS 0 255 L).bind fun x => cmdG3 k v x.1 x.2
def cmdG1 (k : ByteArray) (L : List Int) : Option (ByteArray × ByteArray × ByteArray) := (takeS 0 255 L).bind fun x => cmdG2 k x.1 x.2
def cmd3 (L : List Int) : Option (ByteArray × ByteArray × ByteArray) := (takeS 0 255 L).bind fun x => cmdG1 x.1 x.2
def decCmd (s : ByteArray) : Option CmdS := if s.size < 13 then none else match cmd3 ((strB s).drop 10) with
  | none => none
  | some (k, v, o) => if cmdOk ⟨byteAt s 0, byteAt s 1, gU s 2, k, v, o⟩ then some ⟨byteAt s 0, byteAt s 1, gU s 2, k, v, o⟩ else none
theorem decCmd_ok {s : ByteArray} (h : decCmd s = some c) : CmdP c := by
  unfold decCmd at h
  split at h
  · cases h
  · split at h
    · cases h
    · split at h
      · rename_i hc
        simp only [Option.some.injEq] at h
        subst h
        exact cmdOk_true.1 hc
      · cases h
def noCmd : CmdS := ⟨0, 0, 0, estr, estr, estr⟩
theorem takeS_at {s : ByteArray} {p : Nat} (h : p < s.size) : takeS 0 255 ((strB s).drop p) = if (p : Int) + 1 + byteAt s p ≤ s.size then some (s.extract (p + 1) (p + 1 + (byteAt s p).toNat), (strB s).drop (p + 1 + (byteAt s p).toNat)) else none := by
  have hb := byteAt_bd s p
  have hl : ((strB s).drop (p + 1)).length = s.size - (p + 1) := by rw [List.length_drop, strB_length]
  rw [drop_at h, takeS_cons, hl]
  by_cases hc : (p : Int) + 1 + byteAt s p ≤ s.size
  · rw [if_pos hc, if_pos ⟨by omega, by omega, by omega⟩, cut_eq (by omega), List.drop_drop]
  · rw [if_neg hc, if_neg (by omega)]
theorem takeS_end {s : ByteArray} {p : Nat} (h : s.size ≤ p) : takeS 0 255 ((strB s).drop p) = none := by
  rw [List.drop_eq_nil_of_le (by rw [strB_length]; exact h)]
  rfl
theorem decCmd_none {s : ByteArray} (h : cmd3 ((strB s).drop 10) = none) : decCmd s = none := by
  unfold decCmd
  rw [h]
  split <;> rfl
theorem decodeCmd_ok {s : ByteArray} (hs : s.size ≤ 281474976710656) {R : Int → Int → Int → ByteArray → ByteArray → ByteArray → Int → World → Prop}
    (hR : ∀ w', Ext [] w w' → (decCmd s = none → R 0 0 0 estr estr estr 9 w') ∧ (∀ c, decCmd s = some c → R c.op c.cl c.seq c.key c.val c.old 0 w')) : api_DecodeCmd.Call s w R := by
  apply api_DecodeCmd.sound
  unfold api_DecodeCmd.B0
  refine New.mk fun t2 w1 ht2 hs1 ho1 he1 => New.mk fun a w2 ha hs2 ho2 he2 => ?_
  have he12 := he1.trans he2
  have g1 : CmdAt w2 t2 noCmd := he2.own ho1 (by simp)
  have g2 : CmdAt w2 a noCmd := ho2
  have hne : t2 ≠ a := by omega
  have hge := he1.size
  have bad : decCmd s = none → ∀ w3 x, CmdAt w3 t2 x → Ext [] w w3 → Sts (cmdVs noCmd) ⟨t2, 0, none⟩ 0 w3 fun w1 => LdI .i64 ⟨t2, 0, none⟩ w1 fun x0 => LdI .i64 ⟨t2, 1, none⟩ w1 fun x1 => LdI .i64 ⟨t2, 2, none⟩ w1 fun x2 => LdS ⟨t2, 3, none⟩ w1 fun x3 => LdS ⟨t2, 4, none⟩ w1 fun x4 => LdS ⟨t2, 5, none⟩ w1 fun x5 => R x0 x1 x2 x3 x4 x5 9 w1 := by
    intro hn w3 x hx he
    refine Sts.full hx rfl rfl fun w4 hs4 ho4 he4 => CmdAt.all (c := noCmd) ho4 ((hR w4 (he.trans' he4 fun y hy hl => ?_)).1 hn)
    simp at hy
    omega
  refine Bm.ite (fun hlt => ?_) fun hge13 => ⟨⟨by omega, by omega⟩, ⟨by omega, by omega⟩, ?_⟩
  · exact bad (by unfold decCmd; rw [if_pos (by omega)]) w2 _ g1 he12
  have hdec : decCmd s = match cmd3 ((strB s).drop 10) with
      | none => none
      | some (k, v, o) => if cmdOk ⟨byteAt s 0, byteAt s 1, gU s 2, k, v, o⟩ then some ⟨byteAt s 0, byteAt s 1, gU s 2, k, v, o⟩ else none := by
    unfold decCmd
    rw [if_neg (by omega)]
  refine getU64_ok hs ?_
  rw [wi_byte, wi_byte]
  refine Sts.mk g2.drew (by simp [cmdVs]) rfl fun w3 hs3 ho3 he3 => Sts.mk ho3 (by simp [cmdVs, size_putArr]) rfl fun w4 hs4 ho4 he4 => Sts.mk ho4 (by simp [cmdVs, size_putArr]) rfl fun w5 hs5 ho5 he5 => ?_
  have g5 : CmdAt w5 a ⟨byteAt s 0, byteAt s 1, gU s 2, estr, estr, estr⟩ := ho5
  have hext : Ext [a] w2 w5 := (((Ext.drew _ _).trans he3).trans he4).trans he5
  have q5 : CmdAt w5 t2 noCmd := g1.ext hext (by simp; exact hne)
  have he25 : Ext [] w w5 := he12.trans' hext (fun y hy hl => by simp at hy; omega)
  clear hext he3 he4 he5 ho3 ho4 ho5 hs3 hs4 hs5 g1 g2
  refine ⟨fun m s' t2' a' p f w' => ∃ (pn fn : Nat) (k v o : ByteArray), fn ≤ 3 ∧ m = 3 - fn ∧ s = s' ∧ t2 = t2' ∧ a = a' ∧ p = (pn : Int) ∧ f = (fn : Int) ∧ pn ≤ s.size ∧ CmdAt w' a ⟨byteAt s 0, byteAt s 1, gU s 2, k, v, o⟩ ∧ (∃ x, CmdAt w' t2 x) ∧ Ext [] w w' ∧ cmd3 ((strB s).drop 10) = (if fn = 0 then cmd3 ((strB s).drop pn) else if fn = 1 then cmdG1 k ((strB s).drop pn) else if fn = 2 then cmdG2 k v ((strB s).drop pn) else cmdG3 k v o ((strB s).drop pn)), _,
    ⟨10, 0, estr, estr, estr, by omega, rfl, rfl, rfl, rfl, rfl, rfl, by omega, g5, ⟨_, q5⟩, he25, rfl⟩, ?_⟩
  rintro m s' t2' a' p f w' ⟨p, f, k, v, o, hf3, rfl, rfl, rfl, rfl, rfl, rfl, hp, g, ⟨x, q⟩, he, hc⟩
  unfold api_DecodeCmd.L1b
  refine Bm.ite (fun hf => ?_) fun hf => ?_
  · have stop : takeS 0 255 ((strB s).drop p) = none → decCmd s = none := fun hn => by
      refine decCmd_none ?_
      rw [hc]
      unfold cmd3 cmdG1 cmdG2
      rw [hn]
      have : f = 0 ∨ f = 1 ∨ f = 2 := by omega
      rcases this with rfl | rfl | rfl <;> rfl
    refine Bm.ite (fun hpe => bad (stop (takeS_end (by omega))) w' x q he) fun hpl => ⟨⟨by omega, by omega⟩, ?_⟩
    have hb := byteAt_bd s p
    rw [wi_byte, w64 (x := (p : Int) + 1) (by omega) (by omega), w64 (x := (p : Int) + 1 + byteAt s p) (by omega) (by omega)]
    have htk := takeS_at (s := s) (p := p) (by omega)
    refine Bm.ite (fun hov => bad (stop (by rw [htk, if_neg (by omega)])) w' x q he) fun hfit => ⟨⟨by omega, by omega⟩, ⟨by omega, by omega⟩, ?_⟩
    rw [if_pos (by omega)] at htk
    rw [show ((p : Int) + 1).toNat = p + 1 by omega, show ((p : Int) + 1 + byteAt s p).toNat = p + 1 + (byteAt s p).toNat by omega]
    have ep : IntKind.i64.wrap ((p : Int) + IntKind.i64.wrap (1 + byteAt s p)) = ((p + 1 + (byteAt s p).toNat : Nat) : Int) := by
      rw [w64 (x := 1 + byteAt s p) (by omega) (by omega), w64 (by omega) (by omega)]
      omega
    have ef : IntKind.i64.wrap ((f : Int) + 1) = ((f + 1 : Nat) : Int) := by
      rw [w64 (by omega) (by omega)]
      omega
    have hf' : f = 0 ∨ f = 1 ∨ f = 2 := by omega
    rcases hf' with rfl | rfl | rfl
    · refine Bm.pos rfl (Sts.mk g (by simp [cmdVs]) rfl fun w3 hs3 ho3 he3 => ?_)
      unfold api_DecodeCmd.B1
      rw [ep, ef]
      refine ⟨2, by omega, _, 1, (s.extract (p + 1) (p + 1 + (byteAt s p).toNat)), v, o, by omega, rfl, rfl, rfl, rfl, rfl, rfl, by omega, ho3, ⟨x, q.ext he3 (by simp; exact hne)⟩, he.trans' he3 (fun y hy hl => by simp at hy; omega), ?_⟩
      rw [hc]
      show cmd3 _ = cmdG1 _ _
      unfold cmd3
      rw [htk]
      rfl
    · refine Bm.neg rfl (Bm.pos rfl (Sts.mk g (by simp [cmdVs]) rfl fun w3 hs3 ho3 he3 => ?_))
      unfold api_DecodeCmd.B1
      rw [ep, ef]
      refine ⟨1, by omega, _, 2, k, (s.extract (p + 1) (p + 1 + (byteAt s p).toNat)), o, by omega, rfl, rfl, rfl, rfl, rfl, rfl, by omega, ho3, ⟨x, q.ext he3 (by simp; exact hne)⟩, he.trans' he3 (fun y hy hl => by simp at hy; omega), ?_⟩
      rw [hc]
      show cmdG1 _ _ = cmdG2 _ _ _
      unfold cmdG1
      rw [htk]
      rfl
    · refine Bm.neg rfl (Bm.neg rfl (Sts.mk g (by simp [cmdVs]) rfl fun w3 hs3 ho3 he3 => ?_))
      unfold api_DecodeCmd.B1
      rw [ep, ef]
      refine ⟨0, by omega, _, 3, k, v, (s.extract (p + 1) (p + 1 + (byteAt s p).toNat)), by omega, rfl, rfl, rfl, rfl, rfl, rfl, by omega, ho3, ⟨x, q.ext he3 (by simp; exact hne)⟩, he.trans' he3 (fun y hy hl => by simp at hy; omega), ?_⟩
      rw [hc]
      show cmdG2 _ _ _ = cmdG3 _ _ _ _
      unfold cmdG2
      rw [htk]
      rfl
  · have hf' : f = 3 := by omega
    subst hf'
    have hc' : cmd3 ((strB s).drop 10) = cmdG3 k v o ((strB s).drop p) := hc
    refine Bm.mk (fun hne2 => ?_) fun heq => ?_
    · have hpp : p ≠ s.size := by
        rintro rfl
        simp at hne2
      unfold api_DecodeCmd.B2
      refine Bm.pos rfl (bad (decCmd_none ?_) w' x q he)
      rw [hc']
      unfold cmdG3
      rw [if_neg]
      intro hnil
      have := congrArg List.length hnil
      rw [List.length_drop, strB_length] at this
      simp at this
      omega
    · have hpp : p = s.size := by
        have : (p : Int) = (s.size : Int) := by simpa using heq
        omega
      subst hpp
      have h3 : cmdG3 k v o ((strB s).drop s.size) = some (k, v, o) := by
        unfold cmdG3
        rw [if_pos (List.drop_eq_nil_of_le (by rw [strB_length]; omega))]
      rw [hc', h3] at hdec
      have hdec : decCmd s = if cmdOk ⟨byteAt s 0, byteAt s 1, gU s 2, k, v, o⟩ then some ⟨byteAt s 0, byteAt s 1, gU s 2, k, v, o⟩ else none := hdec
      refine g.all (cmdOK_ok (c := ⟨byteAt s 0, byteAt s 1, gU s 2, k, v, o⟩) fun w3 he3 => ?_)
      unfold api_DecodeCmd.B2
      cases hok : cmdOk ⟨byteAt s 0, byteAt s 1, gU s 2, k, v, o⟩ with
      | false =>
        rw [hok] at hdec
        exact Bm.pos rfl (bad hdec w3 x (q.ext0 he3) (he.trans he3))
      | true =>
        rw [hok] at hdec
        refine Bm.neg rfl ((g.ext0 he3).all (Sts.full (vs := cmdVs ⟨byteAt s 0, byteAt s 1, gU s 2, k, v, o⟩) (q.ext0 he3) rfl rfl fun w4 hs4 ho4 he4 => CmdAt.all (c := ⟨byteAt s 0, byteAt s 1, gU s 2, k, v, o⟩) ho4 ((hR w4 ((he.trans he3).trans' he4 fun y hy hl => ?_)).2 _ hdec)))
        simp at hy
        omega
end
end Go.Proofs.Qxb6500430aGreat.Kv
