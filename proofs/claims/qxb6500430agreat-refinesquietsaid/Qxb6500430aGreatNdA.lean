/-
  node: the wire's format, plain.
-/
import Derived.Test.Qxb6500430aGreatSyRe
import Derived.Test.Qxb6500430aGreatKvN
set_option linter.unusedVariables false
set_option linter.unusedSimpArgs false
open Go.Vc
namespace Go.Proofs.Qxb6500430aGreat
open Kv
def mixI (s b : Int) : Int := (s * 31 + b + 1) % 65536
def sumL (v : List Int) : Int := v.foldl mixI 7439
theorem sumL_snoc (v : List Int) (b : Int) : sumL (v ++ [b]) = mixI (sumL v) b := by simp [sumL]
theorem mixI_bd (s b : Int) : 0 ≤ mixI s b ∧ mixI s b < 65536 := by unfold mixI; omega
theorem foldl_bd : ∀ (v : List Int) (s : Int), 0 ≤ s ∧ s < 65536 → 0 ≤ v.foldl mixI s ∧ v.foldl mixI s < 65536
  | [], s, h => h
  | b :: v, s, _ => foldl_bd v (mixI s b) (mixI_bd s b)
theorem sumL_bd (v : List Int) : 0 ≤ sumL v ∧ sumL v < 65536 := foldl_bd v 7439 (by omega)
def mixW (s b : Int) : Int := IntKind.i64.wrap ((BitVec.ofInt 64 (IntKind.i64.wrap (IntKind.i64.wrap (IntKind.i64.wrap (s * 31) + IntKind.i64.wrap b) + 1)) &&& BitVec.ofInt 64 (65535 : Int)).toNat : Int)
theorem mixW_eq {s b : Int} (hs : 0 ≤ s ∧ s < 65536) (hb : 0 ≤ b ∧ b < 256) : mixW s b = mixI s b := by
  unfold mixW mixI
  rw [w64 (x := s * 31) (by omega) (by omega), w64 (x := b) (by omega) (by omega), w64 (x := s * 31 + b) (by omega) (by omega), w64 (x := s * 31 + b + 1) (by omega) (by omega)]
  obtain ⟨n, hn⟩ : ∃ n : Nat, s * 31 + b + 1 = n := ⟨(s * 31 + b + 1).toNat, by omega⟩
  rw [hn]
  have n1 : (BitVec.ofInt 64 (n : Int)).toNat = n := by
    rw [BitVec.toNat_ofInt]
    have : (2 ^ 64 : Nat) = 18446744073709551616 := by decide
    rw [this]
    omega
  have n2 : (BitVec.ofInt 64 (65535 : Int)).toNat = 2 ^ 16 - 1 := by decide
  rw [BitVec.toNat_and, n1, n2, Nat.and_two_pow_sub_one_eq_mod]
  rw [w64 (by omega) (by omega)]
  omega
def orW8 (a b : Int) : Int := IntKind.i64.wrap ((BitVec.ofInt 64 (IntKind.i64.wrap (IntKind.i64.wrap a * 2 ^ (min (8 : Int).toNat 64))) ||| BitVec.ofInt 64 (IntKind.i64.wrap b)).toNat : Int)
theorem orW8_eq {a b : Int} (ha : 0 ≤ a ∧ a < 256) (hb : 0 ≤ b ∧ b < 256) : orW8 a b = a * 256 + b := by
  unfold orW8
  have e3 : (2 : Int) ^ (min (8 : Int).toNat 64) = 256 := by decide
  rw [e3, w64 (x := a) (by omega) (by omega), w64 (x := b) (by omega) (by omega), w64 (x := a * 256) (by omega) (by omega)]
  obtain ⟨x, rfl⟩ : ∃ x : Nat, a = x := ⟨a.toNat, by omega⟩
  obtain ⟨y, rfl⟩ : ∃ y : Nat, b = y := ⟨b.toNat, by omega⟩
  have c1 : (x : Int) * 256 = ((x * 256 : Nat) : Int) := by simp
  have n1 : (BitVec.ofInt 64 ((x * 256 : Nat) : Int)).toNat = x * 256 := by
    rw [BitVec.toNat_ofInt]
    have : (2 ^ 64 : Nat) = 18446744073709551616 := by decide
    rw [this]
    omega
  have n2 : (BitVec.ofInt 64 (y : Int)).toNat = y := by
    rw [BitVec.toNat_ofInt]
    have : (2 ^ 64 : Nat) = 18446744073709551616 := by decide
    rw [this]
    omega
  have o : (x * 256 ||| y) = x * 256 + y := by
    have := Nat.shiftLeft_add_eq_or_of_lt (i := 8) (b := y) (by omega) x
    rw [Nat.shiftLeft_eq] at this
    have e : (2 : Nat) ^ 8 = 256 := by decide
    rw [e] at this
    exact this.symm
  rw [c1, BitVec.toNat_or, n1, n2, o, w64 (by omega) (by omega)]
  omega
/-! ### the encoding -/
def entB (e : EntV) : List Int := enc8 e.1 ++ putS e.2
def bodyL (m : MsgV) : List Int := [m.kind, m.fr, m.to, if m.ok then 1 else 0] ++ enc8 m.term ++ enc8 m.idx ++ enc8 m.lt ++ enc8 m.cm ++ [(m.ents.length : Int)] ++ m.ents.flatMap entB ++ putS m.data
def sumB (v : List Int) : List Int := [sumL v / 256, sumL v % 256]
def encM (m : MsgV) : ByteArray := if msgB m then bStr (bodyL m ++ sumB (bodyL m)) else estr
theorem putS_length (s : ByteArray) : (putS s).length = 1 + s.size := by unfold putS; rw [List.length_cons, strB_length]; omega
theorem entB_length (e : EntV) : (entB e).length = 9 + e.2.size := by unfold entB; rw [List.length_append, enc8_length, putS_length]; omega
theorem ents_length : ∀ (E : List EntV), (∀ x ∈ E, x.2.size ≤ 24) → (E.flatMap entB).length ≤ 33 * E.length
  | [], _ => by simp
  | e :: E, h => by
    have := ents_length E (fun x hx => h x (List.mem_cons_of_mem _ hx))
    have := h e (by simp)
    rw [List.flatMap_cons, List.length_append, entB_length, List.length_cons]
    omega
theorem bodyL_length (m : MsgV) : (bodyL m).length = 38 + (m.ents.flatMap entB).length + m.data.size := by
  simp only [bodyL, List.length_append, List.length_cons, List.length_nil, enc8_length, putS_length]
  omega
theorem ents_isB : ∀ (E : List EntV), (∀ x ∈ E, x.2.size ≤ 24) → IsB (E.flatMap entB)
  | [], _ => IsB.nil
  | e :: E, h => by
    rw [List.flatMap_cons]
    have := h e (by simp)
    exact IsB.append (IsB.append (enc8_isB _) (putS_isB (by omega))) (ents_isB E fun x hx => h x (List.mem_cons_of_mem _ hx))
theorem bodyL_isB {m : MsgV} (h : MB m) : IsB (bodyL m) := by
  have := h.len
  have := h.kind
  have := h.fr
  have := h.to
  have := h.data
  unfold bodyL
  refine IsB.append (IsB.append (IsB.append (IsB.append (IsB.append (IsB.append (IsB.append ?_ (enc8_isB _)) (enc8_isB _)) (enc8_isB _)) (enc8_isB _)) (IsB.one (by omega))) (ents_isB _ fun x hx => (h.ent x hx).2.2)) (putS_isB (by omega))
  intro x hx
  simp only [List.mem_cons, List.not_mem_nil, or_false] at hx
  rcases hx with e | e | e | e
  · omega
  · omega
  · omega
  · subst e
    split <;> omega
theorem bodyL_le {m : MsgV} (h : MB m) : (bodyL m).length ≤ 232 := by
  have := ents_length m.ents (fun x hx => (h.ent x hx).2.2)
  have := h.len
  have := h.data
  rw [bodyL_length]
  omega
/-! ### the decoder as a machine -/
abbrev Ol := Option (List Int)
def rOne : Ol → Int × Ol
  | some (b :: L) => (b, some L)
  | _ => (0, none)
def rNum : Ol → Int × Ol
  | some L => match takeN L with
    | some (v, M) => (v, some M)
    | none => (0, none)
  | none => (0, none)
def rText (most : Int) : Ol → ByteArray × Ol
  | some L => match takeS 0 most L with
    | some (x, M) => (x, some M)
    | none => (estr, none)
  | none => (estr, none)
def rEnts : Nat → Ol → List EntV × Ol
  | 0, o => ([], o)
  | n + 1, none => ([], none)
  | n + 1, some L => (((rNum (some L)).1, (rText 24 (rNum (some L)).2).1) :: (rEnts n (rText 24 (rNum (some L)).2).2).1, (rEnts n (rText 24 (rNum (some L)).2).2).2)
structure Hd where
  k : Int
  f : Int
  t : Int
  ok : Int
  tm : Int
  ix : Int
  lt : Int
  cm : Int
  n : Int
  o : Ol
def rHead (B : List Int) : Hd :=
  let r0 := rOne (some B)
  let r1 := rOne r0.2
  let r2 := rOne r1.2
  let r3 := rOne r2.2
  let r4 := rNum r3.2
  let r5 := rNum r4.2
  let r6 := rNum r5.2
  let r7 := rNum r6.2
  let r8 := rOne r7.2
  ⟨r0.1, r1.1, r2.1, r3.1, r4.1, r5.1, r6.1, r7.1, r8.1, r8.2⟩
def Hd.bad (h : Hd) : Bool := decide (h.k < 1 ∨ 5 < h.k ∨ 3 ≤ h.f ∨ 3 ≤ h.t ∨ 1 < h.ok ∨ 2 < h.n)
def Hd.o2 (h : Hd) : Ol := if h.bad = true then none else h.o
def Hd.es (h : Hd) : List EntV × Ol := rEnts h.n.toNat h.o2
def Hd.dt (h : Hd) : ByteArray × Ol := rText 128 h.es.2
def Hd.msg (h : Hd) : MsgV := ⟨h.k, h.f, h.t, h.tm, h.ix, h.lt, h.cm, h.ok == 1, h.es.1, h.dt.1⟩
def decD (B : List Int) : Option MsgV := if (rHead B).dt.2 = some [] then some (rHead B).msg else none
def decM (s : ByteArray) : Option MsgV :=
  if s.size < 40 ∨ 234 < s.size then none
  else if sumL ((strB s).take (s.size - 2)) ≠ byteAt s ((s.size : Int) - 2) * 256 + byteAt s ((s.size : Int) - 1) then none
  else decD ((strB s).take (s.size - 2))
/-! ### the decoder that looks at the numbers last -/
def gw (L : List Int) : Int := if 72057594037927936 < dec8 (L.take 8) then -1 else dec8 (L.take 8)
def eWide : Nat → List Int → Option (List EntV × List Int)
  | 0, L => some ([], L)
  | n + 1, L => if L.length < 9 then none else match takeS 0 255 (L.drop 8) with
    | none => none
    | some (x, M) => match eWide n M with
      | none => none
      | some (E, K) => some ((gw L, x) :: E, K)
def wMsg (B : List Int) (E : List EntV) (x : ByteArray) : MsgV := ⟨B.getD 0 0, B.getD 1 0, B.getD 2 0, gw (B.drop 4), gw (B.drop 12), gw (B.drop 20), gw (B.drop 28), B.getD 3 0 == 1, E, x⟩
def decW (B : List Int) : Option MsgV :=
  if 1 < B.getD 3 0 ∨ 2 < B.getD 36 0 then none else match eWide (B.getD 36 0).toNat (B.drop 37) with
    | none => none
    | some (E, M) => match takeS 0 255 M with
      | some (x, []) => if msgB (wMsg B E x) then some (wMsg B E x) else none
      | _ => none
theorem rOne_at {B : List Int} {n : Nat} (h : n < B.length) : rOne (some (B.drop n)) = (B.getD n 0, some (B.drop (n + 1))) := by
  rw [List.drop_eq_getElem_cons h]
  show (B[n], some (B.drop (n + 1))) = _
  rw [List.getD_eq_getElem?_getD, List.getElem?_eq_getElem h]
  rfl
theorem gw_bd {L : List Int} (hB : IsB L) (hl : 8 ≤ L.length) : (gw L = -1 ∧ 72057594037927936 < dec8 (L.take 8)) ∨ (0 ≤ gw L ∧ gw L ≤ 72057594037927936 ∧ gw L = dec8 (L.take 8)) := by
  have hb := (dec8_bd 8 (hB.take 8) (by rw [List.length_take]; omega) (by omega)).1
  unfold gw
  by_cases hc : 72057594037927936 < dec8 (L.take 8)
  · rw [if_pos hc]; exact .inl ⟨rfl, hc⟩
  · rw [if_neg hc]; exact .inr ⟨hb, by omega, rfl⟩
theorem rNum_pos {L : List Int} (hB : IsB L) (hl : 8 ≤ L.length) (hg : gw L ≠ -1) : rNum (some L) = (gw L, some (L.drop 8)) := by
  rcases gw_bd hB hl with h | ⟨h1, h2, h3⟩
  · exact absurd h.1 hg
  · show (match takeN L with | some (v, M) => (v, some M) | none => (0, none)) = _
    unfold takeN
    rw [if_pos ⟨hl, by omega⟩, h3]
theorem rNum_neg {L : List Int} (hB : IsB L) (hg : L.length < 8 ∨ gw L = -1) : rNum (some L) = (0, none) := by
  show (match takeN L with | some (v, M) => (v, some M) | none => (0, none)) = _
  unfold takeN
  by_cases hl : 8 ≤ L.length
  · rcases gw_bd hB hl with h | ⟨h1, h2, h3⟩
    · rw [if_neg (fun q => by omega)]
    · rcases hg with z | z <;> omega
  · rw [if_neg (fun q => hl q.1)]
theorem takeS_none {most : Int} {L : List Int} (hm : most ≤ 255) (h : takeS 0 255 L = none) : takeS 0 most L = none := by
  cases L with
  | nil => rfl
  | cons n L =>
    rw [takeS_cons] at h ⊢
    split at h
    · cases h
    · rename_i hc
      rw [if_neg (fun q => hc ⟨q.1, by omega, q.2.2⟩)]
theorem takeS_some {most : Int} {L M : List Int} {x : ByteArray} (hm : most ≤ 255) (h : takeS 0 255 L = some (x, M)) : takeS 0 most L = if (x.size : Int) ≤ most then some (x, M) else none := by
  cases L with
  | nil => cases h
  | cons n L =>
    rw [takeS_cons] at h ⊢
    split at h
    · rename_i hc
      simp only [Option.some.injEq, Prod.mk.injEq] at h
      obtain ⟨rfl, rfl⟩ := h
      have hsz : (bStr (L.take n.toNat)).size = n.toNat := by rw [bStr_size, List.length_take]; omega
      rw [hsz]
      by_cases h2 : n ≤ most
      · rw [if_pos ⟨hc.1, h2, hc.2.2⟩, if_pos (by omega)]
      · rw [if_neg (fun q => h2 q.2.1), if_neg (by omega)]
    · cases h
theorem takeS_isB {L M : List Int} {x : ByteArray} (hB : IsB L) (h : takeS 0 255 L = some (x, M)) : IsB M := (takeS_inv hB (by omega) h).2.2.2
theorem rText_some {most : Int} {L M : List Int} {x : ByteArray} (hm : most ≤ 255) (h : takeS 0 255 L = some (x, M)) (hx : (x.size : Int) ≤ most) : rText most (some L) = (x, some M) := by
  show (match takeS 0 most L with | some (x, M) => (x, some M) | none => (estr, none)) = _
  rw [takeS_some hm h, if_pos hx]
theorem rText_bad {most : Int} {L : List Int} (hm : most ≤ 255) (h : takeS 0 255 L = none ∨ ∃ x M, takeS 0 255 L = some (x, M) ∧ most < (x.size : Int)) : rText most (some L) = (estr, none) := by
  show (match takeS 0 most L with | some (x, M) => (x, some M) | none => (estr, none)) = _
  rcases h with h | ⟨x, M, h, hx⟩
  · rw [takeS_none hm h]
  · rw [takeS_some hm h, if_neg (by omega)]
theorem rEnts_none : ∀ n : Nat, (rEnts n none).2 = none
  | 0 => rfl
  | _ + 1 => rfl
def okE (E : List EntV) : Prop := ∀ x ∈ E, 0 ≤ x.1 ∧ x.1 ≤ 72057594037927936 ∧ x.2.size ≤ 24
theorem rEnts_both : ∀ (n : Nat) (L : List Int), IsB L → (∀ E M, eWide n L = some (E, M) → IsB M ∧ E.length = n ∧ (okE E → rEnts n (some L) = (E, some M)) ∧ (¬ okE E → (rEnts n (some L)).2 = none)) ∧ (eWide n L = none → (rEnts n (some L)).2 = none)
  | 0, L, hB => by
    refine ⟨fun E M h => ?_, fun h => by cases h⟩
    simp only [eWide, Option.some.injEq, Prod.mk.injEq] at h
    obtain ⟨rfl, rfl⟩ := h
    exact ⟨hB, rfl, fun _ => rfl, fun h => absurd (fun x hx => by cases hx) h⟩
  | n + 1, L, hB => by
    have unf : (rEnts (n + 1) (some L)) = (((rNum (some L)).1, (rText 24 (rNum (some L)).2).1) :: (rEnts n (rText 24 (rNum (some L)).2).2).1, (rEnts n (rText 24 (rNum (some L)).2).2).2) := rfl
    have dead : (rText 24 (rNum (some L)).2).2 = none → (rEnts (n + 1) (some L)).2 = none := fun h => by
      rw [unf]
      show (rEnts n (rText 24 (rNum (some L)).2).2).2 = none
      rw [h]
      exact rEnts_none n
    have dead1 : (rNum (some L)).2 = none → (rEnts (n + 1) (some L)).2 = none := fun h => dead (by rw [h]; rfl)
    by_cases hl : L.length < 9
    · have ew : eWide (n + 1) L = none := by show (if L.length < 9 then none else _) = none; rw [if_pos hl]
      refine ⟨fun E M h => (by rw [ew] at h; cases h), fun _ => ?_⟩
      by_cases h8 : L.length < 8
      · exact dead1 (by rw [rNum_neg hB (.inl h8)])
      · by_cases hg : gw L = -1
        · exact dead1 (by rw [rNum_neg hB (.inr hg)])
        · refine dead ?_
          rw [rNum_pos hB (by omega) hg]
          have : L.drop 8 = [] := List.drop_of_length_le (by omega)
          show (rText 24 (some (L.drop 8))).2 = none
          rw [this]
          rfl
    · have ew : eWide (n + 1) L = match takeS 0 255 (L.drop 8) with | none => none | some (x, M) => match eWide n M with | none => none | some (E, K) => some ((gw L, x) :: E, K) := by
        show (if L.length < 9 then none else _) = _
        rw [if_neg hl]
      rw [ew]
      have hBd : IsB (L.drop 8) := hB.drop 8
      cases ht : takeS 0 255 (L.drop 8) with
      | none =>
        refine ⟨fun E M h => (by cases h), fun _ => ?_⟩
        by_cases hg : gw L = -1
        · exact dead1 (by rw [rNum_neg hB (.inr hg)])
        · refine dead ?_
          rw [rNum_pos hB (by omega) hg, rText_bad (by omega) (.inl ht)]
      | some xm =>
        obtain ⟨x, M⟩ := xm
        have hBM := takeS_isB hBd ht
        obtain ⟨i1, i2⟩ := rEnts_both n M hBM
        -- the first entry is good
        have good : gw L ≠ -1 → x.size ≤ 24 → rEnts (n + 1) (some L) = ((gw L, x) :: (rEnts n (some M)).1, (rEnts n (some M)).2) := fun hg hx => by
          rw [unf, rNum_pos hB (by omega) hg]
          show ((gw L, (rText 24 (some (L.drop 8))).1) :: _, _) = _
          rw [rText_some (by omega) ht (by omega)]
        have badd : (gw L = -1 ∨ 24 < x.size) → (rEnts (n + 1) (some L)).2 = none := fun h => by
          rcases h with h | h
          · exact dead1 (by rw [rNum_neg hB (.inr h)])
          · by_cases hg : gw L = -1
            · exact dead1 (by rw [rNum_neg hB (.inr hg)])
            · refine dead ?_
              rw [rNum_pos hB (by omega) hg, rText_bad (by omega) (.inr ⟨x, M, ht, by omega⟩)]
        have gb := gw_bd hB (by omega)
        refine ⟨fun E K h => ?_, fun h => ?_⟩
        · dsimp only at h
          cases he : eWide n M with
          | none => rw [he] at h; cases h
          | some ek =>
            obtain ⟨E', K'⟩ := ek
            rw [he] at h
            simp only [Option.some.injEq, Prod.mk.injEq] at h
            obtain ⟨rfl, rfl⟩ := h
            obtain ⟨j1, j2, j3, j4⟩ := i1 E' K' he
            refine ⟨j1, by simp [j2], fun ho => ?_, fun ho => ?_⟩
            · have h1 := ho (gw L, x) (by simp)
              have h2 : okE E' := fun y hy => ho y (List.mem_cons_of_mem _ hy)
              rw [good (by have := h1.1; show gw L ≠ -1; omega) h1.2.2, j3 h2]
            · by_cases hb : gw L = -1 ∨ 24 < x.size
              · exact badd hb
              · have hn : ¬ okE E' := fun h2 => ho fun y hy => by
                  rcases List.mem_cons.1 hy with rfl | hy
                  · refine ⟨?_, ?_, ?_⟩
                    · show 0 ≤ gw L; omega
                    · show gw L ≤ _; omega
                    · show x.size ≤ 24; omega
                  · exact h2 y hy
                rw [good (by omega) (by omega)]
                exact j4 hn
        · dsimp only at h
          cases he : eWide n M with
          | none =>
            by_cases hb : gw L = -1 ∨ 24 < x.size
            · exact badd hb
            · rw [good (by omega) (by omega)]
              exact i2 he
          | some ek =>
            rw [he] at h
            cases h
theorem rHead_good {B : List Int} (hB : IsB B) (hl : 38 ≤ B.length) (h1 : gw (B.drop 4) ≠ -1) (h2 : gw (B.drop 12) ≠ -1) (h3 : gw (B.drop 20) ≠ -1) (h4 : gw (B.drop 28) ≠ -1) :
    rHead B = ⟨B.getD 0 0, B.getD 1 0, B.getD 2 0, B.getD 3 0, gw (B.drop 4), gw (B.drop 12), gw (B.drop 20), gw (B.drop 28), B.getD 36 0, some (B.drop 37)⟩ := by
  have n8 : ∀ n : Nat, n + 8 ≤ B.length → gw (B.drop n) ≠ -1 → rNum (some (B.drop n)) = (gw (B.drop n), some (B.drop (n + 8))) := fun n hn hg => by
    rw [rNum_pos (hB.drop n) (by rw [List.length_drop]; omega) hg, List.drop_drop]
  have e0 : rOne (some B) = (B.getD 0 0, some (B.drop 1)) := rOne_at (n := 0) (by omega)
  unfold rHead
  rw [e0]
  dsimp only
  rw [rOne_at (n := 1) (by omega)]
  dsimp only
  rw [rOne_at (n := 2) (by omega)]
  dsimp only
  rw [rOne_at (n := 3) (by omega)]
  dsimp only
  rw [n8 4 (by omega) h1]
  dsimp only
  rw [n8 12 (by omega) h2]
  dsimp only
  rw [n8 20 (by omega) h3]
  dsimp only
  rw [n8 28 (by omega) h4]
  dsimp only
  rw [rOne_at (n := 36) (by omega)]
theorem rHead_bad {B : List Int} (hB : IsB B) (hl : 38 ≤ B.length) (h : gw (B.drop 4) = -1 ∨ gw (B.drop 12) = -1 ∨ gw (B.drop 20) = -1 ∨ gw (B.drop 28) = -1) : (rHead B).o = none := by
  have n8 : ∀ n : Nat, n + 8 ≤ B.length → gw (B.drop n) ≠ -1 → rNum (some (B.drop n)) = (gw (B.drop n), some (B.drop (n + 8))) := fun n hn hg => by
    rw [rNum_pos (hB.drop n) (by rw [List.length_drop]; omega) hg, List.drop_drop]
  have e0 : rOne (some B) = (B.getD 0 0, some (B.drop 1)) := rOne_at (n := 0) (by omega)
  unfold rHead
  rw [e0]
  dsimp only
  rw [rOne_at (n := 1) (by omega)]
  dsimp only
  rw [rOne_at (n := 2) (by omega)]
  dsimp only
  rw [rOne_at (n := 3) (by omega)]
  dsimp only
  by_cases h1 : gw (B.drop 4) = -1
  · rw [rNum_neg (hB.drop 4) (.inr h1)]
    rfl
  rw [n8 4 (by omega) h1]
  dsimp only
  by_cases h2 : gw (B.drop 12) = -1
  · rw [rNum_neg (hB.drop 12) (.inr h2)]
    rfl
  rw [n8 12 (by omega) h2]
  dsimp only
  by_cases h3 : gw (B.drop 20) = -1
  · rw [rNum_neg (hB.drop 20) (.inr h3)]
    rfl
  rw [n8 20 (by omega) h3]
  dsimp only
  by_cases h4 : gw (B.drop 28) = -1
  · rw [rNum_neg (hB.drop 28) (.inr h4)]
    rfl
  omega
theorem getD_bd {B : List Int} (hB : IsB B) (n : Nat) : 0 ≤ B.getD n 0 ∧ B.getD n 0 < 256 := by
  rw [List.getD_eq_getElem?_getD]
  cases h : B[n]? with
  | none => simp
  | some x => exact hB.get h
theorem decD_eq {B : List Int} (hB : IsB B) (hl : 38 ≤ B.length) : decD B = decW B := by
  have dead : (rHead B).o2 = none → decD B = none := fun h => by
    unfold decD Hd.dt Hd.es
    rw [h, rEnts_none]
    rfl
  -- a message out of bounds
  have no : (∀ E x, ¬ MB (wMsg B E x)) → decW B = none := fun h => by
    unfold decW
    by_cases hz : 1 < B.getD 3 0 ∨ 2 < B.getD 36 0
    · rw [if_pos hz]
    rw [if_neg hz]
    cases he : eWide (B.getD 36 0).toNat (B.drop 37) with
    | none => rfl
    | some em =>
      obtain ⟨E, M⟩ := em
      dsimp only
      cases ht : takeS 0 255 M with
      | none => rfl
      | some xm =>
        obtain ⟨x, K⟩ := xm
        cases K with
        | cons a K => rfl
        | nil =>
          dsimp only
          rw [if_neg]
          intro hm
          exact h E x ((msgB_iff _).1 hm)
  by_cases hg : gw (B.drop 4) = -1 ∨ gw (B.drop 12) = -1 ∨ gw (B.drop 20) = -1 ∨ gw (B.drop 28) = -1
  · rw [dead (by unfold Hd.o2; rw [rHead_bad hB hl hg]; split <;> rfl), no]
    intro E x hm
    have a1 := hm.term
    have a2 := hm.idx
    have a3 := hm.lt
    have a4 := hm.cm
    simp only [wMsg] at a1 a2 a3 a4
    omega
  have hd := rHead_good hB hl (by omega) (by omega) (by omega) (by omega)
  have g4 := gw_bd (hB.drop 4) (by rw [List.length_drop]; omega)
  have g12 := gw_bd (hB.drop 12) (by rw [List.length_drop]; omega)
  have g20 := gw_bd (hB.drop 20) (by rw [List.length_drop]; omega)
  have g28 := gw_bd (hB.drop 28) (by rw [List.length_drop]; omega)
  have bd1 := getD_bd hB 1
  have bd2 := getD_bd hB 2
  have bd36 := getD_bd hB 36
  by_cases hb : (rHead B).bad = true
  · rw [dead (by unfold Hd.o2; rw [if_pos hb])]
    rw [hd] at hb
    unfold Hd.bad at hb
    simp only [decide_eq_true_eq] at hb
    by_cases hz : 1 < B.getD 3 0 ∨ 2 < B.getD 36 0
    · unfold decW
      rw [if_pos hz]
    · rw [no]
      intro E x hm
      have a1 := hm.kind
      have a2 := hm.fr
      have a3 := hm.to
      simp only [wMsg] at a1 a2 a3
      omega
  · have ho : (rHead B).o2 = some (B.drop 37) := by unfold Hd.o2; rw [if_neg hb, hd]
    have hes : (rHead B).es = rEnts (B.getD 36 0).toNat (some (B.drop 37)) := by unfold Hd.es; rw [ho, hd]
    have hb' := hb
    rw [hd] at hb'
    unfold Hd.bad at hb'
    simp only [decide_eq_true_eq] at hb'
    obtain ⟨i1, i2⟩ := rEnts_both (B.getD 36 0).toNat (B.drop 37) (hB.drop 37)
    unfold decW
    rw [if_neg (by omega)]
    cases he : eWide (B.getD 36 0).toNat (B.drop 37) with
    | none =>
      have : (rHead B).dt.2 = none := by unfold Hd.dt; rw [hes, i2 he]; rfl
      unfold decD
      rw [this]
      rfl
    | some em =>
      obtain ⟨E, M⟩ := em
      dsimp only
      obtain ⟨j1, j2, j3, j4⟩ := i1 E M he
      by_cases hk : okE E
      · have hes' := hes
        rw [j3 hk] at hes'
        have hdt : (rHead B).dt = rText 128 (some M) := by unfold Hd.dt; rw [hes']
        have hmsg : ∀ x, (rHead B).dt.1 = x → (rHead B).msg = wMsg B E x := fun x hx => by
          unfold Hd.msg wMsg
          rw [hx, hes', hd]
        cases ht : takeS 0 255 M with
        | none =>
          unfold decD
          rw [hdt, rText_bad (by omega) (.inl ht)]
          rfl
        | some xm =>
          obtain ⟨x, K⟩ := xm
          by_cases hx : (x.size : Int) ≤ 128
          · have hdt2 : (rHead B).dt = (x, some K) := by rw [hdt, rText_some (by omega) ht hx]
            unfold decD
            rw [hdt2]
            cases K with
            | cons a K => rfl
            | nil =>
              have hm : msgB (wMsg B E x) = true := by
                rw [msgB_iff]
                exact ⟨by simp only [wMsg]; omega, by simp only [wMsg]; omega, by simp only [wMsg]; omega, by simp only [wMsg]; omega, by simp only [wMsg]; omega, by simp only [wMsg]; omega, by simp only [wMsg]; omega, by simp only [wMsg]; omega, by simp only [wMsg]; omega, hk⟩
              show _ = if msgB (wMsg B E x) = true then some (wMsg B E x) else none
              rw [if_pos hm, if_pos rfl, hmsg x (by rw [hdt2])]
          · unfold decD
            rw [hdt, rText_bad (by omega) (.inr ⟨x, K, ht, by omega⟩)]
            cases K with
            | cons a K => rfl
            | nil =>
              have hno : ¬ (msgB (wMsg B E x) = true) := fun hm => by
                have := ((msgB_iff _).1 hm).data
                simp only [wMsg] at this
                omega
              show _ = if msgB (wMsg B E x) = true then some (wMsg B E x) else none
              rw [if_neg hno]
              rfl
      · have : (rHead B).dt.2 = none := by unfold Hd.dt; rw [hes, j4 hk]; rfl
        unfold decD
        rw [this]
        show none = _
        split
        · rename_i x _
          rw [if_neg]
          intro hm
          exact hk ((msgB_iff _).1 hm).ent
        · rfl
end Go.Proofs.Qxb6500430aGreat
