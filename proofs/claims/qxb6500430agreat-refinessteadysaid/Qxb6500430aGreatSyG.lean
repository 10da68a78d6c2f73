/-
  sync: the leader's book: sorted, advance, acked, refused.
-/
import Derived.Test.Qxb6500430aGreatSyF
set_option linter.unusedVariables false
set_option linter.unusedSimpArgs false
open Go.Vc
namespace Go.Proofs.Qxb6500430aGreat
def I3 (x y z : Int) : Array Value := #[.int .i64 x, .int .i64 y, .int .i64 z]
theorem i3_0 (x y z v : Int) : putArr (I3 x y z) 0 [.int .i64 v] = I3 v y z := rfl
theorem i3_1 (x y z v : Int) : putArr (I3 x y z) 1 [.int .i64 v] = I3 x v z := rfl
theorem i3_2 (x y z v : Int) : putArr (I3 x y z) 2 [.int .i64 v] = I3 x y v := rfl
theorem adi (a k : Nat) : Addr.add ⟨a, 0, none⟩ (((k : Nat) : Int).toNat * 1) = ⟨a, k, none⟩ := by rw [add_mk, Int.toNat_natCast]; simp
/-- One pass of the insertion: a key at place i, what stands left of it in order. -/
theorem sortIn {w : World} {a t2 : Nat} {x y z : Int} {T : TypeId} {N1 : Nat → Nat → Int → World → Prop} {R : Int → Int → Int → World → Prop} (h : Own w a (I3 x y z) T) :
    ((∀ w', Own w' a (if x > y then I3 y x z else I3 x y z) T → Ext [a] w w' → N1 a t2 2 w') → sync_sorted.L2 a t2 1 y 1 w N1 R) ∧
    (x ≤ y → (∀ w', Own w' a (if y > z then (if x > z then I3 z x y else I3 x z y) else I3 x y z) T → Ext [a] w w' → N1 a t2 3 w') → sync_sorted.L2 a t2 2 z 2 w N1 R) := by
  have st : ∀ {w : World} {p q r v : Int} {k : Nat} {c' : Array Value} {K : World → Prop}, Own w a (I3 p q r) T → k < 3 → putArr (I3 p q r) k [.int .i64 v] = c' → (∀ w', Own w' a c' T → Ext [a] w w' → K w') → Sts [.int .i64 v] (Addr.add ⟨a, 0, none⟩ (((k : Nat) : Int).toNat * 1)) 0 w K := fun {w p q r v k c' K} ho hk e hK => by
    rw [adi]
    exact Sts.mk ho (by show k + 1 ≤ 3; omega) rfl fun w' _ ho' he => hK w' (by rw [e] at ho'; exact ho') he
  have w0 : IntKind.i64.wrap ((1 : Int) - 1) = ((0 : Nat) : Int) := by decide
  have w1 : IntKind.i64.wrap ((2 : Int) - 1) = ((1 : Nat) : Int) := by decide
  refine ⟨fun hN => ?_, fun hxy hN => ?_⟩
  · unfold sync_sorted.L2
    refine ⟨fun m a' t' i' x' j w' => a = a' ∧ t2 = t' ∧ i' = 1 ∧ y = x' ∧ ((m = 1 ∧ j = 1 ∧ Own w' a (I3 x y z) T) ∨ (m = 0 ∧ j = 0 ∧ x > y ∧ Own w' a (I3 x x z) T)) ∧ Ext [a] w w', _, ⟨rfl, rfl, rfl, rfl, .inl ⟨rfl, rfl, h⟩, Ext.refl _ _⟩, ?_⟩
    rintro m a' t' i' x' j w' ⟨rfl, rfl, rfl, rfl, hc, he⟩
    unfold sync_sorted.L2b sync_sorted.B1
    rcases hc with ⟨rfl, rfl, ho⟩ | ⟨rfl, rfl, hg, ho⟩
    · refine Bm.pos rfl ?_
      rw [w0, adi]
      refine ⟨by decide, LdI.mk ho rfl ?_⟩
      by_cases c : x > y
      · refine Bm.pos (decide_eq_true c) ⟨by decide, LdI.mk ho rfl ⟨by decide, st (k := 1) ho (by omega) (i3_1 _ _ _ _) fun w2 ho2 he2 => ⟨0, by omega, rfl, rfl, rfl, rfl, .inr ⟨rfl, rfl, c, ho2⟩, he.trans he2⟩⟩⟩
      · refine Bm.neg (decide_eq_false c) ⟨by decide, st (k := 1) ho (by omega) (i3_1 _ _ _ _) fun w2 ho2 he2 => ?_⟩
        rw [if_neg c] at hN
        exact hN w2 ho2 (he.trans he2)
    · refine Bm.neg rfl (Bm.neg rfl ⟨by decide, st (k := 0) ho (by omega) (i3_0 _ _ _ _) fun w2 ho2 he2 => ?_⟩)
      rw [if_pos hg] at hN
      exact hN w2 ho2 (he.trans he2)
  · unfold sync_sorted.L2
    refine ⟨fun m a' t' i' x' j w' => a = a' ∧ t2 = t' ∧ i' = 2 ∧ z = x' ∧ ((m = 2 ∧ j = 2 ∧ Own w' a (I3 x y z) T) ∨ (m = 1 ∧ j = 1 ∧ y > z ∧ Own w' a (I3 x y y) T) ∨ (m = 0 ∧ j = 0 ∧ y > z ∧ x > z ∧ Own w' a (I3 x x y) T)) ∧ Ext [a] w w', _, ⟨rfl, rfl, rfl, rfl, .inl ⟨rfl, rfl, h⟩, Ext.refl _ _⟩, ?_⟩
    rintro m a' t' i' x' j w' ⟨rfl, rfl, rfl, rfl, hc, he⟩
    unfold sync_sorted.L2b sync_sorted.B1
    rcases hc with ⟨rfl, rfl, ho⟩ | ⟨rfl, rfl, hg, ho⟩ | ⟨rfl, rfl, hg, hg2, ho⟩
    · refine Bm.pos rfl ?_
      rw [w1, adi]
      refine ⟨by decide, LdI.mk ho rfl ?_⟩
      by_cases c : y > z
      · refine Bm.pos (decide_eq_true c) ⟨by decide, LdI.mk ho rfl ⟨by decide, st (k := 2) ho (by omega) (i3_2 _ _ _ _) fun w2 ho2 he2 => ⟨1, by omega, rfl, rfl, rfl, rfl, .inr (.inl ⟨rfl, rfl, c, ho2⟩), he.trans he2⟩⟩⟩
      · refine Bm.neg (decide_eq_false c) ⟨by decide, st (k := 2) ho (by omega) (i3_2 _ _ _ _) fun w2 ho2 he2 => ?_⟩
        rw [if_neg c] at hN
        exact hN w2 ho2 (he.trans he2)
    · refine Bm.pos rfl ?_
      rw [w0, adi]
      refine ⟨by decide, LdI.mk ho rfl ?_⟩
      by_cases c : x > z
      · refine Bm.pos (decide_eq_true c) ⟨by decide, LdI.mk ho rfl ⟨by decide, st (k := 1) ho (by omega) (i3_1 _ _ _ _) fun w2 ho2 he2 => ⟨0, by omega, rfl, rfl, rfl, rfl, .inr (.inr ⟨rfl, rfl, hg, c, ho2⟩), he.trans he2⟩⟩⟩
      · refine Bm.neg (decide_eq_false c) ⟨by decide, st (k := 1) ho (by omega) (i3_1 _ _ _ _) fun w2 ho2 he2 => ?_⟩
        rw [if_pos hg, if_neg c] at hN
        exact hN w2 ho2 (he.trans he2)
    · refine Bm.neg rfl (Bm.neg rfl ⟨by decide, st (k := 0) ho (by omega) (i3_0 _ _ _ _) fun w2 ho2 he2 => ?_⟩)
      rw [if_pos hg, if_pos hg2] at hN
      exact hN w2 ho2 (he.trans he2)
def med (x y z : Int) : Int := max (min x y) (min (max x y) z)
theorem sorted_ok {w : World} {x y z : Int} {R : Int → Int → Int → World → Prop} (hR : ∀ p q w', Ext [] w w' → R p (med x y z) q w') : sync_sorted.Call x y z w R := by
  apply sync_sorted.sound
  unfold sync_sorted.B0
  refine New.mk fun a w1 e1 s1 o1 he1 => New.mk fun t2 w2 e2 s2 o2 he2 => ?_
  have oa : Own w2 a (I3 x y z) 81 := he2.own o1 (by simp)
  have ot : Own w2 t2 (I3 0 0 0) 81 := o2
  have al := o1.lt
  have hz1 := he1.size
  unfold sync_sorted.L1
  refine ⟨fun m a' t' i w' => a = a' ∧ t2 = t' ∧ Ext [a] w2 w' ∧ ((m = 2 ∧ i = 1 ∧ Own w' a (I3 x y z) 81) ∨ (m = 1 ∧ i = 2 ∧ ∃ p q, p = min x y ∧ q = max x y ∧ Own w' a (I3 p q z) 81) ∨ (m = 0 ∧ i = 3 ∧ ∃ p r, Own w' a (I3 p (med x y z) r) 81)), _, ⟨rfl, rfl, Ext.refl _ _, .inl ⟨rfl, rfl, oa⟩⟩, ?_⟩
  rintro m a' t' i w' ⟨rfl, rfl, he', hc⟩
  unfold sync_sorted.L1b
  rcases hc with ⟨rfl, rfl, ho⟩ | ⟨rfl, rfl, p, q, hp, hq, ho⟩ | ⟨rfl, rfl, p, r, ho⟩
  · refine Bm.pos rfl ⟨by decide, ?_⟩
    rw [show (1 : Int) = ((1 : Nat) : Int) from rfl, adi]
    refine LdI.mk ho rfl ((sortIn ho).1 fun w3 ho3 he3 => ⟨1, by omega, rfl, rfl, he'.trans he3, .inr (.inl ⟨rfl, rfl, min x y, max x y, rfl, rfl, ?_⟩)⟩)
    by_cases c : x > y
    · rw [if_pos c] at ho3
      rw [show min x y = y by omega, show max x y = x by omega]
      exact ho3
    · rw [if_neg c] at ho3
      rw [show min x y = x by omega, show max x y = y by omega]
      exact ho3
  · refine Bm.pos rfl ⟨by decide, ?_⟩
    rw [show (2 : Int) = ((2 : Nat) : Int) from rfl, adi]
    refine LdI.mk ho rfl ((sortIn ho).2 (by omega) fun w3 ho3 he3 => ⟨0, by omega, rfl, rfl, he'.trans he3, .inr (.inr ⟨rfl, rfl, ?_⟩)⟩)
    unfold med
    by_cases c : q > z
    · rw [if_pos c] at ho3
      by_cases c2 : p > z
      · rw [if_pos c2] at ho3
        exact ⟨z, q, by rw [show max (min x y) (min (max x y) z) = p by omega]; exact ho3⟩
      · rw [if_neg c2] at ho3
        exact ⟨p, q, by rw [show max (min x y) (min (max x y) z) = z by omega]; exact ho3⟩
    · rw [if_neg c] at ho3
      exact ⟨p, z, by rw [show max (min x y) (min (max x y) z) = q by omega]; exact ho3⟩
  · have ot' : Own w' t2 (I3 0 0 0) 81 := he'.own ot (by simp; omega)
    refine Bm.neg rfl (LdI.mk ho rfl (LdI.mk ho rfl (LdI.mk ho rfl (Sts.mk ot' (by simp [I3]) rfl fun w3 hs3 o3 he3 => ?_))))
    refine LdI.mk o3 rfl (LdI.mk o3 rfl (LdI.mk o3 rfl (hR p r w3 ?_)))
    exact ((he1.trans he2).trans' he' (fun k hk hl => by simp at hk; omega)).trans' he3 (fun k hk hl => by simp at hk; omega)
section
variable {w0 w w' : World} {s l t d e : Nat} {D0 : DiskS} {F0 : List Nat} {N : Int} {L0 : LogS} {X : SyR} {L : LogS} {es : El.ES} {Y : YS} {B : List ME} {S T : List LogS}
theorem Ev.st {X' : SyR} {Y' : YS} {bx : Nat → Value} (h : EvX w0 s l t d e D0 F0 N L0 w (syX l e Y bx B.length) Y.L Y.e B S) (hb : BoxOk bx B) (ho : SyAt w' s X') (he : Ext [s] w w') (hL : Y'.L = Y.L) (hE : Y'.e = Y.e) (hX : X' = syX l e Y' bx B.length) : Ev w0 s l t d e D0 F0 N L0 w' Y' B S ∧ ExtT w w' CT := by
  subst hX
  have h2 := h.st ho rfl rfl he
  rw [← hL, ← hE] at h2
  exact ⟨⟨bx, h2, hb⟩, CTs (by simp) h.own he⟩
theorem advN_le (L : LogS) (tm cm : Int) : ∀ k, cm ≤ advN L tm cm k ∧ advN L tm cm k ≤ cm + (k : Int)
  | 0 => by simp [advN]
  | k + 1 => by
    have := advN_le L tm cm k
    unfold advN
    split <;> omega
/-- The book's bounds that a leader keeps. -/
structure Book (Y : YS) : Prop where
  id : 0 ≤ Y.e.id ∧ Y.e.id < 3
  all : ∀ p : Nat, p < 3 → (p : Int) ≠ Y.e.id → 0 ≤ Y.mt p ∧ Y.mt p < Y.nx p ∧ Y.nx p ≤ Y.L.last + 1
  cm : Y.L.base ≤ Y.cm ∧ Y.cm ≤ Y.L.last
theorem med_max (Y : YS) (h : Book Y) : (Y.e.id = 0 → med Y.L.last (Y.mt 1) (Y.mt 2) = peerMax Y) ∧ (Y.e.id = 1 → med (Y.mt 0) Y.L.last (Y.mt 2) = peerMax Y) ∧ (Y.e.id = 2 → med (Y.mt 0) (Y.mt 1) Y.L.last = peerMax Y) := by
  have h0 := h.all 0 (by omega)
  have h1 := h.all 1 (by omega)
  have h2 := h.all 2 (by omega)
  refine ⟨fun e => ?_, fun e => ?_, fun e => ?_⟩
  · have a := h1 (by omega)
    have b := h2 (by omega)
    unfold med peerMax
    rw [if_pos e]
    omega
  · have a := h0 (by omega)
    have b := h2 (by omega)
    unfold med peerMax
    rw [if_neg (by omega), if_pos e]
    omega
  · have a := h0 (by omega)
    have b := h1 (by omega)
    unfold med peerMax
    rw [if_neg (by omega), if_neg (by omega)]
    omega
theorem peerMax_le (Y : YS) (h : Book Y) : 0 ≤ peerMax Y ∧ peerMax Y ≤ Y.L.last := by
  have h0 := h.all 0 (by omega)
  have h1 := h.all 1 (by omega)
  have h2 := h.all 2 (by omega)
  unfold peerMax
  have hi := h.id
  split
  · have a := h1 (by omega)
    have b := h2 (by omega)
    omega
  · split
    · have a := h0 (by omega)
      have b := h2 (by omega)
      omega
    · have a := h0 (by omega)
      have b := h1 (by omega)
      omega
theorem advance_ok {R : World → Prop} (h : Ev w0 s l t d e D0 F0 N L0 w Y B S) (hk : Book Y) (hR : ∀ w', Ev w0 s l t d e D0 F0 N L0 w' (advF Y) B S → ExtT w w' CT → R w') : sync_Sync_advance.Call (some ⟨s, 0, none⟩) w R := by
  apply sync_Sync_advance.sound
  unfold sync_Sync_advance.B0
  obtain ⟨bx, h, hb⟩ := h
  have v := h.vw
  have hlast : Y.L.base + (Y.L.ents.length : Int) ≤ 72057594037927936 := v.ok.last
  have hbase := v.ok.base
  have hl9 : Y.L.last = Y.L.base + (Y.L.ents.length : Int) := rfl
  have hid := hk.id
  have hpm := peerMax_le Y hk
  refine v.eId (v.eTerm (Pn.mk (v.own.ldI (o := 6) (by omega) rfl ?_)))
  simp only [add_mk]
  refine LdI.fn v.own (by omega) (syF_mt (p := 1) (by omega)) (LdI.fn v.own (by omega) (syF_mt (p := 2) (by omega)) (NewSet.mk rfl rfl fun hd w2 hhd hs2 o2 he2 => ?_))
  have h2 := h.ext0 he2
  refine Pn.mk (LdI.fn (o := 9) h2.own (by omega) rfl ⟨⟨by omega, by omega⟩, ?_⟩)
  have oh : Own w2 hd (I3 (Y.mt 0) (Y.mt 1) (Y.mt 2)) 81 := o2
  have hz := h.ext.size
  obtain ⟨i, hi⟩ := Int.eq_ofNat_of_zero_le hid.1
  have fin : ∀ {w3 : World} {p q : Int} {c' : Array Value}, Own w3 hd c' 81 → c' = I3 p q 0 → True := fun _ _ => trivial
  -- the rest, behind the sort
  have go : ∀ {wa : World} {x y z : Int}, Own wa hd (I3 x y z) 81 → Ext [hd] w2 wa → med x y z = peerMax Y →
      (LdI .i64 ⟨hd, 0, none⟩ wa fun x0 => LdI .i64 ⟨hd, 1, none⟩ wa fun x1 => LdI .i64 ⟨hd, 2, none⟩ wa fun x2 => sync_sorted.Call x0 x1 x2 wa fun r0 r1 r2 w6 => Sts [.int .i64 r0, .int .i64 r1, .int .i64 r2] ⟨hd, 0, none⟩ 0 w6 fun w7 => (0 ≤ (1 : Int) ∧ (1 : Int) < ((3 : Nat) : Int)) ∧ LdI .i64 ⟨hd, 1, none⟩ w7 fun x32 => sync_Sync_advance.L1 (some ⟨s, 0, none⟩) Y.e.term x32 w7 R) := fun {wa x y z} oa hea hm => by
    refine LdI.mk oa rfl (LdI.mk oa rfl (LdI.mk oa rfl (sorted_ok fun p q w6 he6 => ?_)))
    have o6 := he6.own oa (by simp)
    refine Sts.mk o6 (by simp [I3]) rfl fun w7 hs7 o7 he7 => ⟨by decide, LdI.mk o7 rfl ?_⟩
    rw [hm]
    have t2 : Tys w2 [hd] [81] := Tys.one oh
    have ea : EvX w0 s l t d e D0 F0 N L0 wa (syX l e Y bx B.length) Y.L Y.e B S := h2.other hea t2 (fun q hq => by simp at hq; subst hq; decide) (fun y hy => by simp at hy; omega)
    have e7 := (ea.ext0 he6).other he7 (Tys.one o6) (fun q hq => by simp at hq; subst hq; decide) (fun y hy => by simp at hy; omega)
    have x7 : ExtT w w7 CT := by
      have := extFresh (ExtT.nil he2 CT) hea (by omega)
      exact extFresh (this.trans (ExtT.nil he6 _)) he7 (by omega)
    unfold sync_Sync_advance.L1
    refine ⟨fun m s' tm' n' w' => ∃ k : Nat, k = m ∧ some ⟨s, 0, none⟩ = s' ∧ Y.e.term = tm' ∧ n' ≤ Y.L.last ∧ -1 ≤ n' ∧ k = (n' - Y.cm).toNat ∧ advN Y.L Y.e.term Y.cm (peerMax Y - Y.cm).toNat = advN Y.L Y.e.term Y.cm k ∧ EvX w0 s l t d e D0 F0 N L0 w' (syX l e Y bx B.length) Y.L Y.e B S ∧ ExtT w w' CT, _, ⟨_, rfl, rfl, rfl, by omega, by omega, rfl, rfl, e7, x7⟩, ?_⟩
    rintro m s' tm' n' w' ⟨k, rfl, rfl, rfl, hn, hn0, hk', hadv, h', x'⟩
    have hcm := hk.cm
    unfold sync_Sync_advance.L1b
    refine Pn.mk (h'.own.ldI (o := 2) (by omega) rfl (Bm.ite (fun hgt => ?_) fun hle => ?_))
    · have hgt' : n' > Y.cm := hgt
      obtain ⟨k1, rfl⟩ : ∃ k1, k = k1 + 1 := ⟨k - 1, by omega⟩
      have en : Y.cm + ((k1 : Int) + 1) = n' := by omega
      refine h'.vw.cTermAt (by omega) fun w8 he8 => ?_
      have h8 := h'.ext0 he8
      have st1 : advN Y.L Y.e.term Y.cm (k1 + 1) = if (termL Y.L (Y.cm + ((k1 : Int) + 1))).1 = Y.e.term then Y.cm + ((k1 : Int) + 1) else advN Y.L Y.e.term Y.cm k1 := rfl
      rw [st1, en] at hadv
      by_cases c : (termL Y.L n').1 = Y.e.term
      · rw [if_pos c] at hadv
        refine Bm.pos (by simpa using c) (Pn.mk (h8.own.stCm fun w9 hs9 o9 he9 => ?_))
        obtain ⟨f1, f2⟩ := Ev.st (Y' := advF Y) h8 hb o9 he9 rfl rfl (by unfold advF; rw [hadv]; rfl)
        exact hR w9 f1 ((x'.trans (ExtT.nil he8 _)).trans f2)
      · rw [if_neg c] at hadv
        refine Bm.neg (by simpa using c) ⟨k1, by omega, k1, rfl, rfl, rfl, ?_, ?_, ?_, hadv, h8, x'.trans (ExtT.nil he8 _)⟩ <;> (rw [w64 (by omega) (by omega)]; omega)
    · have hle' : ¬ (n' > Y.cm) := hle
      have k0 : k = 0 := by omega
      subst k0
      refine hR w' ⟨bx, ?_, hb⟩ x'
      have ex : syX l e (advF Y) bx B.length = syX l e Y bx B.length := by
        unfold advF
        rw [hadv]
        rfl
      rw [ex]
      exact h'
  have hm := med_max Y hk
  have : i = 0 ∨ i = 1 ∨ i = 2 := by omega
  rw [hi]
  rcases this with rfl | rfl | rfl
  · exact Sts.mk oh (by simp [I3]) rfl fun w5 hs5 o5 he5 => go o5 he5 (hm.1 hi)
  · exact Sts.mk oh (by simp [I3]) rfl fun w5 hs5 o5 he5 => go o5 he5 (hm.2.1 hi)
  · exact Sts.mk oh (by simp [I3]) rfl fun w5 hs5 o5 he5 => go o5 he5 (hm.2.2 hi)
end
end Go.Proofs.Qxb6500430aGreat
