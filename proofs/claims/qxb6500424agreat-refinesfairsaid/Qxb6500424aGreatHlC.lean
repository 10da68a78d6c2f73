/-
  hostlaw: NewWorld, and where the walk starts.
-/
import Derived.Test.Qxb6500424aGreatHlB
set_option linter.unusedVariables false
set_option linter.unusedSimpArgs false
open Go.Vc
namespace Go.Proofs.Qxb6500424aGreat
def r00 (wp np : Nat) : LR := ⟨wp, [], np, [], fun _ => 0, fun _ => none, fun _ => [], fun _ => 0, none, 0, [], KL.nil, KL.nil, KL.nil, [], []⟩
def k00 : LC := ⟨0, fun _ => 0, fun _ => 0, fun _ => 0, 0, false, 0⟩
def H00 : Nat → HS := fun c => freshHS ((c : Int) + 1)
def m00 (BH BQ : Nat → HB) (qu : Bool) : LH := ⟨BH, BQ, H00, H00, qu⟩
def newF (m : LH) (r : LR) (k : LC) (i j l o : Nat) : Value :=
  if o < 3 then .pointer (if o < i then some ⟨(m.BH o).hp, 0, none⟩ else none)
  else if o < 24 then (if (o - 3) / 7 < j then belowF (m.BH ((o - 3) / 7)) ((o - 3) % 7) else .pointer none)
  else if o < 27 then .pointer (if o - 24 < l then (if m.qu = true then some ⟨(m.BQ (o - 24)).hp, 0, none⟩ else none) else none)
  else lawF m r k o
def updHB (B : Nat → HB) (i : Nat) (v : HB) : Nat → HB := fun c => if c = i then v else B c
theorem updHB_at (B : Nat → HB) (i : Nat) (v : HB) : updHB B i v i = v := by unfold updHB; rw [if_pos rfl]
theorem updHB_ne {B : Nat → HB} {i c : Nat} {v : HB} (h : c ≠ i) : updHB B i v c = B c := by unfold updHB; rw [if_neg h]
section
variable {w w' : World} {BH BQ : Nat → HB} {qu : Bool} {wp np i : Nat}
theorem lawF_hi {BH' BQ' : Nat → HB} {o : Nat} (ho : ¬ o < 27) : lawF (m00 BH BQ qu) (r00 wp np) k00 o = lawF (m00 BH' BQ' qu) (r00 wp np) k00 o := by
  unfold lawF
  simp only [show ¬ o < 3 by omega, show ¬ o < 24 by omega, ho, if_false]
  rfl
theorem newF_zero {o : Nat} (ho : o < 50) : (#[.pointer none, .pointer none, .pointer none, .pointer none, .pointer none, .pointer none, .pointer none, .pointer none, .pointer none, .pointer none, .pointer none, .pointer none, .pointer none, .pointer none, .pointer none, .pointer none, .pointer none, .pointer none, .pointer none, .pointer none, .pointer none, .pointer none, .pointer none, .pointer none, .pointer none, .pointer none, .pointer none, .bool qu, .int .i64 (0 : Int), .pointer (some ⟨wp, 0, none⟩), .pointer (some ⟨np, 0, none⟩), .int .i64 (0 : Int), .int .i64 (0 : Int), .int .i64 (0 : Int), .slice none 0 0, .slice none 0 0, .slice none 0 0, .int .i64 (0 : Int), .int .i64 (0 : Int), .int .i64 (0 : Int), .int .i64 (0 : Int), .int .i64 (0 : Int), .int .i64 (0 : Int), .int .i64 (0 : Int), .bool false, .int .i64 (0 : Int), .slice none 0 0, .slice none 0 0, .slice none 0 0, .slice none 0 0] : Array Value)[o]? = some (newF (m00 BH BQ qu) (r00 wp np) k00 0 0 0 o) := by
  by_cases h27 : o < 27
  · have e : newF (m00 BH BQ qu) (r00 wp np) k00 0 0 0 o = .pointer none := by
      unfold newF
      by_cases h3 : o < 3
      · rw [if_pos h3, if_neg (by omega)]
      · rw [if_neg h3]
        by_cases h24 : o < 24
        · rw [if_pos h24, if_neg (by omega)]
        · rw [if_neg h24, if_pos h27, if_neg (by omega)]
    rw [e]
    have : o = 0 ∨ o = 1 ∨ o = 2 ∨ o = 3 ∨ o = 4 ∨ o = 5 ∨ o = 6 ∨ o = 7 ∨ o = 8 ∨ o = 9 ∨ o = 10 ∨ o = 11 ∨ o = 12 ∨ o = 13 ∨ o = 14 ∨ o = 15 ∨ o = 16 ∨ o = 17 ∨ o = 18 ∨ o = 19 ∨ o = 20 ∨ o = 21 ∨ o = 22 ∨ o = 23 ∨ o = 24 ∨ o = 25 ∨ o = 26 := by omega
    rcases this with rfl | rfl | rfl | rfl | rfl | rfl | rfl | rfl | rfl | rfl | rfl | rfl | rfl | rfl | rfl | rfl | rfl | rfl | rfl | rfl | rfl | rfl | rfl | rfl | rfl | rfl | rfl <;> rfl
  · have : o = 27 ∨ o = 28 ∨ o = 29 ∨ o = 30 ∨ o = 31 ∨ o = 32 ∨ o = 33 ∨ o = 34 ∨ o = 35 ∨ o = 36 ∨ o = 37 ∨ o = 38 ∨ o = 39 ∨ o = 40 ∨ o = 41 ∨ o = 42 ∨ o = 43 ∨ o = 44 ∨ o = 45 ∨ o = 46 ∨ o = 47 ∨ o = 48 ∨ o = 49 := by omega
    rcases this with rfl | rfl | rfl | rfl | rfl | rfl | rfl | rfl | rfl | rfl | rfl | rfl | rfl | rfl | rfl | rfl | rfl | rfl | rfl | rfl | rfl | rfl | rfl <;> rfl
theorem newF_three {o : Nat} (ho : o < 50) : newF (m00 BH BQ qu) (r00 wp np) k00 3 3 3 o = lawF (m00 BH BQ qu) (r00 wp np) k00 o := by
  unfold newF
  by_cases h3 : o < 3
  · rw [if_pos h3, if_pos h3]
    unfold lawF pt
    rw [if_pos h3]
  rw [if_neg h3]
  by_cases h24 : o < 24
  · rw [if_pos h24, if_pos (by omega)]
    unfold lawF
    rw [if_neg h3, if_pos h24]
  rw [if_neg h24]
  by_cases h27 : o < 27
  · rw [if_pos h27, if_pos (by omega)]
    unfold lawF
    rw [if_neg h3, if_neg h24, if_pos h27]
  · rw [if_neg h27]
/-- The seven pointers of one host. -/
theorem newF_below {B : HB} {o : Nat} (hi : i < 3) (ho : o < 50) : fnPut (newF (m00 BH BQ qu) (r00 wp np) k00 i i i) (3 + i * 7) [.pointer (some ⟨B.lk, 0, none⟩), .pointer (some ⟨B.ip, 0, none⟩), .pointer (some ⟨B.cx 0, 0, none⟩), .pointer (some ⟨B.cx 1, 0, none⟩), .pointer (some ⟨B.cx 2, 0, none⟩), .pointer (some ⟨B.cx 3, 0, none⟩), .pointer (some ⟨B.tb, 0, none⟩)] o = newF (m00 (updHB BH i B) BQ qu) (r00 wp np) k00 i (i + 1) i o := by
  unfold fnPut
  by_cases hin : 3 + i * 7 ≤ o ∧ o < 3 + i * 7 + 7
  · rw [if_pos (by simpa using hin)]
    obtain ⟨t, ht, rfl⟩ : ∃ t, t < 7 ∧ o = 3 + i * 7 + t := ⟨o - (3 + i * 7), by omega, by omega⟩
    unfold newF
    rw [if_neg (by omega), if_pos (by omega), show (3 + i * 7 + t - 3) / 7 = i by omega, show (3 + i * 7 + t - 3) % 7 = t by omega, if_pos (by omega), show 3 + i * 7 + t - (3 + i * 7) = t by omega]
    show _ = belowF (updHB BH i B i) t
    rw [updHB_at]
    rcases (show t = 0 ∨ t = 1 ∨ t = 2 ∨ t = 3 ∨ t = 4 ∨ t = 5 ∨ t = 6 by omega) with rfl | rfl | rfl | rfl | rfl | rfl | rfl <;> rfl
  · rw [if_neg (by simpa using hin)]
    unfold newF
    by_cases h3 : o < 3
    · rw [if_pos h3, if_pos h3]
      by_cases hoi : o < i
      · rw [if_pos hoi, if_pos hoi]
        show _ = Value.pointer (some ⟨(updHB BH i B o).hp, 0, none⟩)
        rw [updHB_ne (by omega)]
        rfl
      · rw [if_neg hoi, if_neg hoi]
    rw [if_neg h3, if_neg h3]
    by_cases h24 : o < 24
    · rw [if_pos h24, if_pos h24]
      by_cases hoi : (o - 3) / 7 < i
      · rw [if_pos hoi, if_pos (by omega)]
        show _ = belowF (updHB BH i B ((o - 3) / 7)) ((o - 3) % 7)
        rw [updHB_ne (by omega)]
        rfl
      · rw [if_neg hoi, if_neg (by omega)]
    rw [if_neg h24, if_neg h24]
    by_cases h27 : o < 27
    · rw [if_pos h27, if_pos h27]
      rfl
    · rw [if_neg h27, if_neg h27]
      exact lawF_hi h27
theorem newF_host {B : HB} {hp o : Nat} (hi : i < 3) (ho : o < 50) : fnPut (newF (m00 (updHB BH i B) BQ qu) (r00 wp np) k00 i (i + 1) i) i [.pointer (some ⟨hp, 0, none⟩)] o = newF (m00 (updHB BH i { B with hp := hp }) BQ qu) (r00 wp np) k00 (i + 1) (i + 1) i o := by
  unfold fnPut
  by_cases hin : o = i
  · subst hin
    rw [if_pos (by simp)]
    unfold newF
    rw [if_pos hi, if_pos (by omega), Nat.sub_self]
    show _ = Value.pointer (some ⟨(updHB BH o { B with hp := hp } o).hp, 0, none⟩)
    rw [updHB_at]
    rfl
  · rw [if_neg (by simp; omega)]
    unfold newF
    by_cases h3 : o < 3
    · rw [if_pos h3, if_pos h3]
      by_cases hoi : o < i
      · rw [if_pos hoi, if_pos (by omega)]
        show Value.pointer (some ⟨(updHB BH i B o).hp, 0, none⟩) = Value.pointer (some ⟨(updHB BH i { B with hp := hp } o).hp, 0, none⟩)
        rw [updHB_ne (by omega), updHB_ne (by omega)]
      · rw [if_neg hoi, if_neg (by omega)]
    rw [if_neg h3, if_neg h3]
    by_cases h24 : o < 24
    · rw [if_pos h24, if_pos h24]
      by_cases hoi : (o - 3) / 7 < i + 1
      · rw [if_pos hoi, if_pos hoi]
        show belowF (updHB BH i B ((o - 3) / 7)) ((o - 3) % 7) = belowF (updHB BH i { B with hp := hp } ((o - 3) / 7)) ((o - 3) % 7)
        by_cases e : (o - 3) / 7 = i
        · rw [e, updHB_at, updHB_at]; rfl
        · rw [updHB_ne e, updHB_ne e]
      · rw [if_neg hoi, if_neg hoi]
    rw [if_neg h24, if_neg h24]
    by_cases h27 : o < 27
    · rw [if_pos h27, if_pos h27]
      rfl
    · rw [if_neg h27, if_neg h27]
      exact lawF_hi h27
theorem newF_twin {B : HB} {o : Nat} (hi : i < 3) (ho : o < 50) : fnPut (newF (m00 BH BQ true) (r00 wp np) k00 (i + 1) (i + 1) i) (24 + i) [.pointer (some ⟨B.hp, 0, none⟩)] o = newF (m00 BH (updHB BQ i B) true) (r00 wp np) k00 (i + 1) (i + 1) (i + 1) o := by
  unfold fnPut
  by_cases hin : o = 24 + i
  · subst hin
    rw [if_pos (by simp)]
    unfold newF
    rw [if_neg (by omega), if_neg (by omega), if_pos (by omega), if_pos (by omega), Nat.sub_self]
    show _ = Value.pointer (some ⟨(updHB BQ i B (24 + i - 24)).hp, 0, none⟩)
    rw [show 24 + i - 24 = i by omega, updHB_at]
    rfl
  · rw [if_neg (by simp; omega)]
    unfold newF
    by_cases h3 : o < 3
    · rw [if_pos h3, if_pos h3]
      rfl
    rw [if_neg h3, if_neg h3]
    by_cases h24 : o < 24
    · rw [if_pos h24, if_pos h24]
      rfl
    rw [if_neg h24, if_neg h24]
    by_cases h27 : o < 27
    · rw [if_pos h27, if_pos h27]
      by_cases hoi : o - 24 < i
      · rw [if_pos hoi, if_pos (show o - 24 < i + 1 by omega)]
        show _ = Value.pointer (if true = true then some ⟨(updHB BQ i B (o - 24)).hp, 0, none⟩ else none)
        rw [updHB_ne (by omega)]
        rfl
      · rw [if_neg hoi, if_neg (by omega)]
    · rw [if_neg h27, if_neg h27]
      exact lawF_hi h27
theorem newF_notwin (h : qu = false) (i j l l' : Nat) : newF (m00 BH BQ qu) (r00 wp np) k00 i j l = newF (m00 BH BQ qu) (r00 wp np) k00 i j l' := by
  funext o
  subst h
  unfold newF m00
  simp
structure NewI (w0 w : World) (BH BQ : Nat → HB) (qu : Bool) (i : Nat) : Prop where
  H : ∀ c, c < i → HostAt w (BH c) (H00 c)
  J : qu = true → ∀ c, c < i → HostAt w (BQ c) (H00 c)
  dHH : ∀ c d, c < i → d < i → c ≠ d → ∀ y ∈ (BH c).all, y ∉ (BH d).all
  dQQ : qu = true → ∀ c d, c < i → d < i → c ≠ d → ∀ y ∈ (BQ c).all, y ∉ (BQ d).all
  dHQ : qu = true → ∀ c d, c < i → d < i → ∀ y ∈ (BH c).all, y ∉ (BQ d).all
  geH : ∀ c, c < i → ∀ y ∈ (BH c).all, w0.heap.size ≤ y
  geQ : qu = true → ∀ c, c < i → ∀ y ∈ (BQ c).all, w0.heap.size ≤ y
theorem newWorld_ok {R : Option Addr → World → Prop} (hR : ∀ a BH BQ wp np w', LawAt w w' a (m00 BH BQ qu) (r00 wp np) k00 → R (some ⟨a, 0, none⟩) w') : hostlaw_NewWorld.Call qu w R := by
  apply hostlaw_NewWorld.sound
  unfold hostlaw_NewWorld.B0
  refine wNew_ok (Nat.le_refl _) fun wp w1 hwp hwl hW1 he1 => ?_
  have z1 := he1.size
  refine nNew_ok z1 fun np w2 hnp hnl hN2 he2 => New.mk fun a w3 ea hs3 oa he3 => ?_
  have z2 := he2.size
  have E3 : Ext [] w w3 := (he1.trans he2).trans he3
  have hW3 := hW1.ext0 (he2.trans he3)
  have hN3 := hN2.ext0 he3
  have oa' : Own w3 a (fnArr 50 (newF (m00 (fun _ => ⟨0, 0, 0, 0, fun _ => 0, fun _ => 0, fun _ => 0⟩) (fun _ => ⟨0, 0, 0, 0, fun _ => 0, fun _ => 0, fun _ => 0⟩) qu) (r00 wp np) k00 0 0 0)) T_hostlaw_World := by
    have e := fnArr_ext (n := 50) (f := newF (m00 (fun _ => ⟨0, 0, 0, 0, fun _ => 0, fun _ => 0, fun _ => 0⟩) (fun _ => ⟨0, 0, 0, 0, fun _ => 0, fun _ => 0, fun _ => 0⟩) qu) (r00 wp np) k00 0 0 0) rfl (fun j hj => newF_zero (BH := fun _ => ⟨0, 0, 0, 0, fun _ => 0, fun _ => 0, fun _ => 0⟩) (BQ := fun _ => ⟨0, 0, 0, 0, fun _ => 0, fun _ => 0, fun _ => 0⟩) (qu := qu) (wp := wp) (np := np) hj)
    rw [← e]
    exact oa
  unfold hostlaw_NewWorld.L1
  refine ⟨fun mm q' a' i w' => ∃ (q : Nat) (BH BQ : Nat → HB), q ≤ 3 ∧ mm = 3 - q ∧ qu = q' ∧ a = a' ∧ i = (q : Int) ∧ Ext [] w w' ∧ WireAt w.heap.size w' wp [] ∧ NetAt w.heap.size w' np [] (fun _ => 0) ∧ Own w' a (fnArr 50 (newF (m00 BH BQ qu) (r00 wp np) k00 q q q)) T_hostlaw_World ∧ NewI w w' BH BQ qu q, 3,
    ⟨0, _, _, by omega, rfl, rfl, rfl, rfl, E3, hW3, hN3, oa', ⟨fun c hc => by omega, fun _ c hc => by omega, fun c d hc => by omega, fun _ c d hc => by omega, fun _ c d hc => by omega, fun c hc => by omega, fun _ c hc => by omega⟩⟩, ?_⟩
  rintro mm q' a' i w' ⟨q, BH, BQ, hq, rfl, rfl, rfl, rfl, E', W', N', o', I'⟩
  unfold hostlaw_NewWorld.L1b
  have zE := E'.size
  refine Bm.ite (fun hlt => ?_) fun hge => ?_
  rotate_left
  · have hq3 : q = 3 := by omega
    subst hq3
    refine hR a BH BQ wp np w' ⟨?_, ⟨I'.H, I'.J, I'.dHH, I'.dQQ, I'.dHQ, I'.geH, I'.geQ⟩, ⟨W', N', fun c hc => Row.nil _ _ _, Row.nil _ _ _, Ls.nil _ _ _ _, Ls.nil _ _ _ _, Ls.nil _ _ _ _, rfl, fun j k hj => (by simp [r00] at hj), fun e he => (by cases he), fun k hk => (by cases hk), fun k hk => (by cases hk), fun k hk => (by cases hk), fun k hk => (by cases hk), fun k hk => (by cases hk), fun e he => (by cases he)⟩, by omega, E'⟩
    have e : fnArr 50 (newF (m00 BH BQ qu) (r00 wp np) k00 3 3 3) = fnArr 50 (lawF (m00 BH BQ qu) (r00 wp np) k00) := by
      refine fnArr_ext (n := 50) (by simp [fnArr]) fun j hj => ?_
      rw [fnArr_get _ hj, newF_three hj]
    rw [← e]
    exact o'
  have hq3 : q < 3 := by omega
  have ea1 : IntKind.i64.wrap ((q : Int) + 1) = (q : Int) + 1 := w64 (by omega) (by omega)
  rw [ea1]
  refine ground_ok fun B w4 g4 hlow e4 => ⟨⟨by omega, by omega⟩, ?_⟩
  have Ed : Ext [] w' w4 := (Ext.drew [] _).trans e4
  have z4 := Ed.size
  have hal := o'.lt
  have hdz : w'.drew.heap.size = w'.heap.size := rfl
  have o4 := Ed.own o' (by simp)
  rw [show Addr.add ⟨a, 3, none⟩ ((q : Int).toNat * 7) = ⟨a, 3 + q * 7, none⟩ by rw [add_mk, Int.toNat_natCast]]
  refine Sts.fn o4 (by simp; omega) rfl (g := newF (m00 (updHB BH q B) BQ qu) (r00 wp np) k00 q (q + 1) q) (fun j hj => newF_below hq3 hj) fun w5 hs5 o5 he5 => ⟨⟨by omega, by omega⟩, ?_⟩
  have o5d := o5.drew
  have lowNe : ∀ {y : Nat}, lowL B 4 y → y ∉ [a] := fun hy z => by have := (hlow _ hy).1; simp at z; omega
  have g5 := (g4.ext he5 (lowNe (.inl rfl)) (lowNe (.inr (.inl rfl))) (lowNe (.inr (.inr (.inl rfl)))) (fun s hs => ⟨lowNe (.inr (.inr (.inr ⟨s, hs, .inl rfl⟩))), lowNe (.inr (.inr (.inr ⟨s, hs, .inr (.inl rfl)⟩))), lowNe (.inr (.inr (.inr ⟨s, hs, .inr (.inr rfl)⟩)))⟩)).ext0 (Ext.drew [] w5)
  have bel : ∀ t, t < 7 → newF (m00 (updHB BH q B) BQ qu) (r00 wp np) k00 q (q + 1) q (3 + q * 7 + t) = belowF B t := fun t ht => by
    unfold newF
    rw [if_neg (by omega), if_pos (by omega), show (3 + q * 7 + t - 3) / 7 = q by omega, show (3 + q * 7 + t - 3) % 7 = t by omega, if_pos (by omega)]
    show belowF (updHB BH q B q) t = _
    rw [updHB_at]
  have ad : ∀ x y : Nat, ((⟨a, x, none⟩ : Addr).add y) = ⟨a, x + y, none⟩ := fun x y => add_mk _ _ _
  rw [ad, ad, ad, ad, ad, ad]
  refine LdP.fn o5d (by omega) (bel 0 (by omega)) ⟨⟨by omega, by omega⟩, LdP.fn o5d (by omega) (bel 1 (by omega)) ⟨⟨by omega, by omega⟩, LdP.fn o5d (by omega) (bel 2 (by omega)) (LdP.fn o5d (by omega) (bel 3 (by omega)) (LdP.fn o5d (by omega) (bel 4 (by omega)) (LdP.fn o5d (by omega) (bel 5 (by omega)) ⟨⟨by omega, by omega⟩, LdP.fn o5d (by omega) (bel 6 (by omega)) ?_⟩)))⟩⟩
  have z5 := he5.size
  refine hostNew_ok (B := B) (by omega) g5 fun hp w6 ehp hh6 hl6 hA6 he6 => ⟨⟨by omega, by omega⟩, ?_⟩
  have z6 := he6.size
  have hd5 : w5.drew.heap.size = w5.heap.size := rfl
  have o6 := he6.own o5d (by simp)
  rw [show Addr.add ⟨a, 0, none⟩ ((q : Int).toNat * 1) = ⟨a, q, none⟩ from addC0 a q]
  refine Sts.fn o6 (by simp; omega) rfl (g := newF (m00 (updHB BH q { B with hp := hp }) BQ qu) (r00 wp np) k00 (q + 1) (q + 1) q) (fun j hj => newF_host hq3 hj) fun w7 hs7 o7 he7 => ?_
  have allge : ∀ y ∈ ({ B with hp := hp } : HB).all, w'.heap.size ≤ y ∧ y < w7.heap.size ∧ y ≠ a := fun y hy => by
    rcases all_low hy with z | z
    · omega
    · have := hlow y z
      omega
  have hA7 : HostAt w7 { B with hp := hp } (H00 q) := hA6.keep he7 (fun y hy z => (allge y hy).2.2 (by simpa using z))
  have E57 : Ext [] w5 w6 := (Ext.drew [] _).trans he6
  have Ea : Ext [a] w' w7 := ((Ed.nil.trans he5).trans E57.nil).trans he7
  have ta : ExtT w' w7 [T_hostlaw_World] := ExtT.of Ea (Tys.one o')
  have W7 := W'.extT ta (by decide) (by decide) (by decide)
  have N7 := N'.extT ta (by decide) (by decide) (by decide)
  have E7 : Ext [] w w7 := E'.trans' Ea (fun y hy hl => by simp at hy; omega)
  have old : ∀ c, c < q → ∀ y ∈ (BH c).all, y < w'.heap.size := fun c hc => (I'.H c hc).lt
  have oldQ : qu = true → ∀ c, c < q → ∀ y ∈ (BQ c).all, y < w'.heap.size := fun hqu c hc => (I'.J hqu c hc).lt
  have H7 : ∀ c, c < q + 1 → HostAt w7 (updHB BH q { B with hp := hp } c) (H00 c) := fun c hc => by
    by_cases e : c = q
    · rw [e, updHB_at]; exact hA7
    · rw [updHB_ne e]; exact (I'.H c (by omega)).extT ta (by decide)
  have d7 : ∀ c d, c < q + 1 → d < q + 1 → c ≠ d → ∀ y ∈ (updHB BH q { B with hp := hp } c).all, y ∉ (updHB BH q { B with hp := hp } d).all := fun c d hc hd hcd y hy hz => by
    by_cases ec : c = q
    · rw [ec, updHB_at] at hy
      rw [updHB_ne (by omega)] at hz
      have := (allge y hy).1
      have := old d (by omega) y hz
      omega
    · rw [updHB_ne ec] at hy
      by_cases ed : d = q
      · rw [ed, updHB_at] at hz
        have := (allge y hz).1
        have := old c (by omega) y hy
        omega
      · rw [updHB_ne ed] at hz
        exact I'.dHH c d (by omega) (by omega) hcd y hy hz
  have ge7 : ∀ c, c < q + 1 → ∀ y ∈ (updHB BH q { B with hp := hp } c).all, w.heap.size ≤ y := fun c hc y hy => by
    by_cases ec : c = q
    · rw [ec, updHB_at] at hy
      have := (allge y hy).1
      omega
    · rw [updHB_ne ec] at hy
      exact I'.geH c (by omega) y hy
  refine Bm.mk (fun hqu => ?_) fun hqu => ?_
  · -- the twin
    refine build_ok (by omega) fun B2 w8 hB8 hge8 e8 => ⟨⟨by omega, by omega⟩, ?_⟩
    have E78 : Ext [] w7 w8 := (Ext.drew [] _).trans e8
    have hd7 : w7.drew.heap.size = w7.heap.size := rfl
    have z8 := E78.size
    have o8 := E78.own o7 (by simp)
    rw [show Addr.add ⟨a, 24, none⟩ ((q : Int).toNat * 1) = ⟨a, 24 + q, none⟩ by rw [add_mk, Int.toNat_natCast, Nat.mul_one]]
    subst hqu
    refine Sts.fn o8 (by simp; omega) rfl (g := newF (m00 (updHB BH q { B with hp := hp }) (updHB BQ q B2) true) (r00 wp np) k00 (q + 1) (q + 1) (q + 1)) (fun j hj => newF_twin hq3 hj) fun w9 hs9 o9 he9 => ?_
    have Ea2 : Ext [a] w7 w9 := E78.nil.trans he9
    have ta2 : ExtT w7 w9 [T_hostlaw_World] := ExtT.of Ea2 (Tys.one o7)
    have ta3 : ExtT w8 w9 [T_hostlaw_World] := ExtT.of he9 (Tys.one o8)
    have al7 := o7.lt
    have hB9 : HostAt w9 B2 (H00 q) := hB8.extT ta3 (by decide)
    have gB2 : ∀ y ∈ B2.all, w7.heap.size ≤ y := hge8
    unfold hostlaw_NewWorld.B1
    rw [ea1]
    refine ⟨3 - (q + 1), by omega, q + 1, _, _, by omega, rfl, rfl, rfl, by omega, E7.trans' Ea2 (fun y hy hl => by simp at hy; omega), W7.extT ta2 (by decide) (by decide) (by decide), N7.extT ta2 (by decide) (by decide) (by decide), o9, ⟨fun c hc => (H7 c hc).extT ta2 (by decide), fun _ c hc => ?_, d7, fun _ c d hc hd hcd y hy hz => ?_, fun _ c d hc hd y hy hz => ?_, ge7, fun _ c hc y hy => ?_⟩⟩
    · by_cases e : c = q
      · rw [e, updHB_at]; exact hB9
      · rw [updHB_ne e]; exact ((I'.J rfl c (by omega)).extT ta (by decide)).extT ta2 (by decide)
    · by_cases ec : c = q
      · rw [ec, updHB_at] at hy
        rw [updHB_ne (by omega)] at hz
        have := gB2 y hy
        have := oldQ rfl d (by omega) y hz
        omega
      · rw [updHB_ne ec] at hy
        by_cases ed : d = q
        · rw [ed, updHB_at] at hz
          have := gB2 y hz
          have := oldQ rfl c (by omega) y hy
          omega
        · rw [updHB_ne ed] at hz
          exact I'.dQQ rfl c d (by omega) (by omega) hcd y hy hz
    · have hyl : y < w7.heap.size := (H7 c hc).lt y hy
      by_cases ed : d = q
      · rw [ed, updHB_at] at hz
        have := gB2 y hz
        omega
      · rw [updHB_ne ed] at hz
        by_cases ec : c = q
        · rw [ec, updHB_at] at hy
          have := (allge y hy).1
          have := oldQ rfl d (by omega) y hz
          omega
        · rw [updHB_ne ec] at hy
          exact I'.dHQ rfl c d (by omega) (by omega) y hy hz
    · by_cases ec : c = q
      · rw [ec, updHB_at] at hy
        have := gB2 y hy
        have := E7.size
        omega
      · rw [updHB_ne ec] at hy
        exact I'.geQ rfl c (by omega) y hy
  · unfold hostlaw_NewWorld.B1
    rw [ea1]
    have o7' := o7
    rw [newF_notwin hqu (q + 1) (q + 1) q (q + 1)] at o7'
    have nq : ∀ {P : Prop}, qu = true → P := fun z => by rw [hqu] at z; cases z
    exact ⟨3 - (q + 1), by omega, q + 1, _, _, by omega, rfl, rfl, rfl, by omega, E7, W7, N7, o7', ⟨H7, fun z => nq z, d7, fun z => nq z, fun z => nq z, ge7, fun z => nq z⟩⟩
end
end Go.Proofs.Qxb6500424aGreat
