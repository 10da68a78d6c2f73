/-
  synclaw: Spoil, StillStamped, Untouched.
-/
import Derived.Test.Qxb6500433aGreatSyV
set_option linter.unusedVariables false
set_option linter.unusedSimpArgs false
open Go.Vc
namespace Go.Proofs.Qxb6500433aGreat
abbrev T_entsl : TypeId := 38
abbrev VS := Option Addr × Nat × Nat
structure KI where
  mb : Option Addr
  ml : Nat
  mc : Nat
  eb : Option Addr
  ec : Nat
  V : List VS
def slv (v : VS) : Value := .slice v.1 v.2.1 v.2.2
def kiC (I : KI) : List Value := [.slice I.mb I.ml I.mc, .slice I.eb I.V.length I.ec]
theorem kiC_len (I : KI) : (kiC I).length = 2 := rfl
def zM : ME := (⟨-7, 0, 0, 0, 0, 0, 0, false, [], estr⟩, none, 0)
def zE : EntV := (-7, estr)
structure KpAt (w : World) (I : KI) : Prop where
  msgs : Row w I.mb I.ml I.mc 10 T_api_Msg ((List.replicate I.ml zM).flatMap meC)
  row : Row w I.eb I.V.length I.ec 1 T_entsl (I.V.map slv)
  ents : ∀ v ∈ I.V, EA w v.1 v.2.1 v.2.2 (List.replicate v.2.1 zE) ∧ v.2.1 ≤ 1000
  ml3 : I.ml ≤ 100
  vl : I.V.length ≤ 100
def KI.foot (I : KI) (k : Nat) : Prop := k ∈ rowBlk I.mb ∨ k ∈ rowBlk I.eb ∨ ∃ v ∈ I.V, k ∈ rowBlk v.1
section
variable {w w' : World} {I : KI}
theorem KpAt.ext {Z : List Nat} (h : KpAt w I) (he : Ext Z w w') (hZ : ∀ y ∈ Z, y < w.heap.size → ¬ I.foot y) : KpAt w' I :=
  ⟨h.msgs.ext he (fun k hk hx => hZ k hx (h.msgs.lt k hk) (.inl hk)), h.row.ext he (fun k hk hx => hZ k hx (h.row.lt k hk) (.inr (.inl hk))), fun v hv => ⟨Row.ext (h.ents v hv).1 he (fun k hk hx => hZ k hx (Row.lt (h.ents v hv).1 k hk) (.inr (.inr ⟨v, hv, hk⟩))), (h.ents v hv).2⟩, h.ml3, h.vl⟩
theorem KpAt.ty (h : KpAt w I) {k : Nat} (hk : I.foot k) : ∃ cs T, Own w k cs T ∧ T ∈ [T_api_Msg, T_entsl, T_api_Entry] := by
  rcases hk with z | z | ⟨v, hv, z⟩
  · obtain ⟨cs, ho⟩ := h.msgs.ty z
    exact ⟨_, _, ho, by simp⟩
  · obtain ⟨cs, ho⟩ := h.row.ty z
    exact ⟨_, _, ho, by simp⟩
  · obtain ⟨cs, ho⟩ := Row.ty (h.ents v hv).1 z
    exact ⟨_, _, ho, by simp⟩
theorem stillStamped_ok {R : Bool → World → Prop} (h : KpAt w I) (hR : ∀ w', Ext [] w w' → R true w') : synclaw_StillStamped.Call I.mb I.ml I.mc I.eb I.V.length I.ec w R := by
  apply synclaw_StillStamped.sound
  unfold synclaw_StillStamped.B0
  have hml := h.ml3
  have hvl := h.vl
  refine New.mk fun k w1 hk hs1 ok he1 => ?_
  have ok' : Own w1 k #[.slice I.mb I.ml I.mc, .slice I.eb I.V.length I.ec] T_synclaw_Kept := ok
  unfold synclaw_StillStamped.L1
  refine ⟨fun m k' i w' => ∃ n : Nat, n ≤ I.ml ∧ m = I.ml - n ∧ k = k' ∧ i = (n : Int) ∧ Ext [] w1 w', _, ⟨0, by omega, rfl, rfl, rfl, Ext.refl _ _⟩, ?_⟩
  rintro m k' i w2 ⟨n, hn, rfl, rfl, rfl, he2⟩
  unfold synclaw_StillStamped.L1b
  have E2 := he1.trans he2
  have ok2 := he2.own ok' (by simp)
  refine LdL.mk ok2 rfl (Bm.ite (fun hlt => LdL.mk ok2 rfl ?_) fun hge => ?_)
  · have hx : (List.replicate I.ml zM)[n]? = some zM := by rw [List.getElem?_replicate, if_pos (by omega)]
    refine rowMsg (Row.ext h.msgs E2 (fun _ _ z => by cases z)) hx ?_
    exact sameMsg_ok (m := zM.1) (EA.nil w2) (EA.nil w2) (Nat.zero_le _) fun w3 he3 => Bm.neg rfl ⟨I.ml - (n + 1), by omega, n + 1, by omega, rfl, rfl, by rw [w64 (by omega) (by omega)]; omega, he2.trans he3⟩
  · unfold synclaw_StillStamped.L2
    refine ⟨fun m k' i w' => ∃ n : Nat, n ≤ I.V.length ∧ m = I.V.length - n ∧ k = k' ∧ i = (n : Int) ∧ Ext [] w1 w', _, ⟨0, by omega, rfl, rfl, rfl, he2⟩, ?_⟩
    rintro m k' i w3 ⟨n3, hn3, rfl, rfl, rfl, he3⟩
    unfold synclaw_StillStamped.L2b
    have ok3 := he3.own ok' (by simp)
    refine LdL.mk ok3 rfl (Bm.ite (fun hlt => ?_) fun hge => hR w3 (he1.trans he3))
    obtain ⟨v, hv⟩ := get_lt' (L := I.V) (n := n3) (by omega)
    have hvm := List.mem_of_getElem? hv
    obtain ⟨hea, hvn⟩ := h.ents v hvm
    unfold synclaw_StillStamped.L3
    refine ⟨fun m k' i j w' => ∃ p : Nat, p ≤ v.2.1 ∧ m = v.2.1 - p ∧ k = k' ∧ (n3 : Int) = i ∧ j = (p : Int) ∧ Ext [] w1 w', _, ⟨0, by omega, rfl, rfl, rfl, rfl, he3⟩, ?_⟩
    rintro m k' i j w4 ⟨p, hp, rfl, rfl, rfl, rfl, he4⟩
    unfold synclaw_StillStamped.L3b
    have E4 := he1.trans he4
    have ok4 := he4.own ok' (by simp)
    have row4 : Row w4 I.eb I.V.length I.ec 1 T_entsl (I.V.map slv) := Row.ext h.row E4 (fun _ _ z => by cases z)
    have ld : ∀ {Q : Option Addr → Nat → Nat → Prop}, Q v.1 v.2.1 v.2.2 → Pn I.eb fun a => (0 ≤ (n3 : Int) ∧ (n3 : Int) < (I.V.length : Int)) ∧ LdL (Addr.add a ((n3 : Int).toNat * 1)) w4 Q := fun {Q} hQ => by
      obtain ⟨kk, ek, cs, ho, hc⟩ := row4.at (i := n3) (by omega) (by omega)
      rw [ek]
      refine Pn.mk ⟨⟨by omega, by omega⟩, ?_⟩
      rw [Int.toNat_natCast, Nat.mul_one, add_mk, Nat.zero_add]
      refine LdL.mk ho ?_ hQ
      have := hc 0 (by omega)
      simp only [Nat.mul_one, Nat.add_zero] at this
      rw [this, List.getElem?_map, hv]
      rfl
    refine LdL.mk ok4 rfl (ld (Bm.ite (fun hlt2 => LdL.mk ok4 rfl (ld ?_)) fun hge2 => ⟨I.V.length - (n3 + 1), by omega, n3 + 1, by omega, rfl, rfl, by rw [w64 (by omega) (by omega)]; omega, he4⟩))
    have hy : (List.replicate v.2.1 zE)[p]? = some zE := by rw [List.getElem?_replicate, if_pos (by omega)]
    refine EA.ld (EA.ext0 hea E4) hy (sameEntry_ok fun z w5 hz he5 => ?_)
    rw [hz.2 rfl]
    exact Bm.neg rfl ⟨v.2.1 - (p + 1), by omega, p + 1, by omega, rfl, rfl, rfl, by rw [w64 (by omega) (by omega)]; omega, he4.trans he5⟩
theorem wUntouched_ok {nb : Option Addr} {nl nc : Nat} {K : List KI} {R : Bool → World → Prop} (h : Row w nb nl nc 2 T_synclaw_Kept (K.flatMap kiC)) (hk : ∀ I ∈ K, KpAt w I) (hl : nl ≤ 100) (hR : ∀ w', Ext [] w w' → R true w') : synclaw_Untouched.Call nb nl nc w R := by
  apply synclaw_Untouched.sound
  unfold synclaw_Untouched.B0 synclaw_Untouched.L1
  have h1 := h.1
  have h2 := flat_length kiC_len K
  have hlen : K.length = nl := by omega
  refine ⟨fun m nb' nl' nc' j w' => ∃ n : Nat, n ≤ nl ∧ m = nl - n ∧ nb = nb' ∧ nl = nl' ∧ nc = nc' ∧ j = (n : Int) ∧ Ext [] w w', _, ⟨0, by omega, rfl, rfl, rfl, rfl, rfl, Ext.refl _ _⟩, ?_⟩
  rintro m nb' nl' nc' j w1 ⟨n, hn, rfl, rfl, rfl, rfl, rfl, he1⟩
  unfold synclaw_Untouched.L1b
  refine Bm.ite (fun hlt => ?_) fun hge => hR w1 he1
  obtain ⟨I, hI⟩ := get_lt' (L := K) (n := n) (by omega)
  have row1 := Row.ext h he1 (fun _ _ z => by cases z)
  obtain ⟨kk, ek, cs, ho, hc⟩ := row1.at (i := n) (by omega) (by omega)
  rw [ek]
  refine Pn.mk ⟨⟨by omega, by omega⟩, ?_⟩
  rw [Int.toNat_natCast, add_mk, add_mk, Nat.zero_add]
  have g : ∀ j, j < 2 → cs[n * 2 + j]? = (kiC I)[j]? := fun j hj => by rw [hc j hj, flat_get kiC_len hI hj]
  refine LdL.mk ho (g 0 (by omega)) (LdL.mk ho (g 1 (by omega)) (stillStamped_ok ((hk I (List.mem_of_getElem? hI)).ext he1 (fun y hy => by cases hy)) fun w2 he2 => Bm.neg rfl ?_))
  rw [← ek]
  exact ⟨nl - (n + 1), by omega, n + 1, by omega, rfl, rfl, rfl, rfl, by rw [w64 (by omega) (by omega)]; omega, he1.trans he2⟩
theorem pnOf {b : Option Addr} {a : Addr} {K : Addr → Prop} (e : b = some a) (h : K a) : Pn b K := by subst e; exact Pn.mk h
def vsOf (x : ME) : VS := (x.2.1, x.1.ents.length, x.2.2)
theorem spoil_ok {b : Option Addr} {l c lo : Nat} {E : List ME} {R : Option Addr → Nat → Nat → Option Addr → Nat → Nat → World → Prop} (h : ML w b l c lo E) (hl : l ≤ 10) (hent : ∀ x ∈ E, x.1.ents.length ≤ 100)
    (hR : ∀ eb ec w', KpAt w' ⟨b, l, c, eb, ec, E.map vsOf⟩ → (∀ k ∈ rowBlk eb, w.heap.size ≤ k) → Ext (rowBlk b ++ EB E) w w' → R b l c eb (E.map vsOf).length ec w') : synclaw_Spoil.Call b l c w R := by
  apply synclaw_Spoil.sound
  unfold synclaw_Spoil.B0
  have hlen := h.len
  refine New.mk fun b2 w1 hb2 hs1 ob2 he1 => NewSet.mk rfl rfl fun k w3 hk hs3 ok he3 => ?_
  have ok3 : Own w3 k #[.slice b l c, .slice none 0 0] T_synclaw_Kept := ok
  have ob3 : Own w3 b2 #[.slice none 0 0, .slice none 0 0] T_synclaw_Kept := he3.own ob2 (by simp)
  have E3 := he1.trans he3
  have z1 := he1.size
  have z3 := he3.size
  have h3 := h.ext0 E3
  have b2lt := ob2.lt
  have hbk : b2 ≠ k := by omega
  unfold synclaw_Spoil.L1
  refine ⟨fun m b' l' c' t' k' i w' => ∃ (n : Nat) (eb : Option Addr) (ec : Nat), n ≤ l ∧ m = l - n ∧ b = b' ∧ l = l' ∧ c = c' ∧ b2 = t' ∧ k = k' ∧ i = (n : Int) ∧ Own w' k #[.slice b l c, .slice eb n ec] T_synclaw_Kept ∧ Own w' b2 #[.slice none 0 0, .slice none 0 0] T_synclaw_Kept ∧ Row w' eb n ec 1 T_entsl (((E.take n).map vsOf).map slv) ∧ Row w' b l c 10 T_api_Msg ((List.replicate n zM ++ E.drop n).flatMap meC) ∧ (∀ x ∈ E.take n, EA w' x.2.1 x.1.ents.length x.2.2 (List.replicate x.1.ents.length zE)) ∧ (∀ x ∈ E.drop n, EA w' x.2.1 x.1.ents.length x.2.2 x.1.ents) ∧ (∀ y ∈ rowBlk eb, w.heap.size ≤ y) ∧ w3.heap.size ≤ w'.heap.size ∧ Ext (rowBlk b ++ EB E) w w', _,
    ⟨0, none, 0, by omega, rfl, rfl, rfl, rfl, rfl, rfl, rfl, ok3, ob3, Row.nil _ _ _, by simpa using h3.row, fun x hx => (by simp at hx), fun x hx => h3.bd.dat x (by simpa using hx), fun y hy => (by cases hy), Nat.le_refl _, E3.nil⟩, ?_⟩
  rintro m b' l' c' t' k' i w4 ⟨n, eb, ec, hn, rfl, rfl, rfl, rfl, rfl, rfl, rfl, ok4, ob4, re4, rm4, st4, dr4, hge4, hz4, e4⟩
  unfold synclaw_Spoil.L1b
  refine Bm.ite (fun hlt => ?_) fun hge => ?_
  rotate_left
  · have hnl : n = l := by omega
    subst hnl
    refine LdL.mk ok4 rfl (LdL.mk ok4 rfl (Sts.full (vs := [.slice b n c, .slice eb n ec]) ob4 rfl rfl fun w5 hs5 o5 he5 => LdL.mk o5 rfl (LdL.mk o5 rfl ?_)))
    have t5 := Tys.one ob4
    have hta : E.take n = E := List.take_of_length_le (by omega)
    have hda : E.drop n = [] := List.drop_of_length_le (by omega)
    rw [hta] at re4 st4
    rw [hda, List.append_nil] at rm4
    have hml : (E.map vsOf).length = n := by simp [hlen]
    have key := hR eb ec w5 ⟨rowT rm4 he5 t5 (by decide), by show Row w5 eb (E.map vsOf).length ec 1 T_entsl _; rw [hml]; exact rowT re4 he5 t5 (by decide), fun v hv => ?_, by show n ≤ 100; omega, by show (E.map vsOf).length ≤ 100; omega⟩ hge4 (e4.trans' he5 (fun y hy hl => by simp at hy; omega))
    · rw [hml] at key
      exact key
    · obtain ⟨x, hx, rfl⟩ := List.mem_map.1 hv
      exact ⟨rowT (st4 x hx) he5 t5 (by decide), by have := hent x hx; show x.1.ents.length ≤ 1000; omega⟩
  · obtain ⟨x, hx⟩ := get_lt' (L := E) (n := n) (by omega)
    have hxm := List.mem_of_getElem? hx
    have hdr : E.drop n = x :: E.drop (n + 1) := by
      obtain ⟨q1, q2⟩ := List.getElem?_eq_some_iff.1 hx
      rw [List.drop_eq_getElem_cons q1, q2]
    have hxi : (List.replicate n zM ++ E.drop n)[n]? = some x := by
      rw [List.getElem?_append_right (by simp), List.length_replicate, Nat.sub_self, hdr]
      rfl
    have hxl := hent x hxm
    refine rowEnts rm4 hxi ?_
    have dx4 := dr4 x (by rw [hdr]; simp)
    have hxB : ∀ y ∈ rowBlk x.2.1, y ∈ rowBlk b ++ EB E := fun y hy => List.mem_append.2 (.inr (mem_EB.2 ⟨x, hxm, hy⟩))
    have tx : Tys w4 (rowBlk x.2.1) [T_api_Entry] := Tys.row dx4
    -- other messages' entries
    have oth : ∀ {wy : World} {U : List EntV}, Ext (rowBlk x.2.1) w4 wy → ∀ z ∈ E, z ≠ x ∨ True → ∀ j : Nat, j ≠ n → E[j]? = some z → EA w4 z.2.1 z.1.ents.length z.2.2 U → EA wy z.2.1 z.1.ents.length z.2.2 U := fun {wy U} hey z _ _ j hj hz hu => by
      refine Row.ext hu hey (fun kk hkk hin => ?_)
      have ap := h.bd.apart
      obtain ⟨hjl, hjz⟩ := List.getElem?_eq_some_iff.1 hz
      obtain ⟨hnl, hnx⟩ := List.getElem?_eq_some_iff.1 hx
      rcases Nat.lt_or_ge j n with q | q
      · have := List.pairwise_iff_getElem.1 ap j n hjl hnl q
        rw [hjz, hnx] at this
        exact this kk hkk hin
      · have := List.pairwise_iff_getElem.1 ap n j hnl hjl (by omega)
        rw [hjz, hnx] at this
        exact this kk hin hkk
    unfold synclaw_Spoil.L2
    refine ⟨fun m b' l' c' t' k' i eb' el' ec' j w' => ∃ p : Nat, p ≤ x.1.ents.length ∧ m = x.1.ents.length - p ∧ b = b' ∧ l = l' ∧ c = c' ∧ b2 = t' ∧ k = k' ∧ (n : Int) = i ∧ x.2.1 = eb' ∧ x.1.ents.length = el' ∧ x.2.2 = ec' ∧ j = (p : Int) ∧ EA w' x.2.1 x.1.ents.length x.2.2 (List.replicate p zE ++ x.1.ents.drop p) ∧ w'.heap.size = w4.heap.size ∧ Ext (rowBlk x.2.1) w4 w', _,
      ⟨0, by omega, rfl, rfl, rfl, rfl, rfl, rfl, rfl, rfl, rfl, rfl, rfl, by simpa using dx4, rfl, Ext.refl _ _⟩, ?_⟩
    rintro m b' l' c' t' k' i eb' el' ec' j w5 ⟨p, hp, rfl, rfl, rfl, rfl, rfl, rfl, rfl, rfl, rfl, rfl, rfl, d5, hs5, he5⟩
    unfold synclaw_Spoil.L2b
    refine Bm.ite (fun hlt2 => ?_) fun hge2 => ?_
    · refine EA.put (x := zE) d5 (by omega) fun kx w6 hkx hs6 d6 he6 => ⟨x.1.ents.length - (p + 1), by omega, p + 1, by omega, rfl, rfl, rfl, rfl, rfl, rfl, rfl, rfl, rfl, rfl, by rw [w64 (by omega) (by omega)]; omega, ?_, by omega, he5.trans (he6.mono fun y hy _ => by simp at hy; rw [hy, hkx]; simp [rowBlk])⟩
      rw [List.set_append_right _ _ (by simp), List.length_replicate, Nat.sub_self, List.drop_eq_getElem_cons (by omega), List.set_cons_zero] at d6
      rw [List.replicate_succ', List.append_assoc]
      exact d6
    · have hpl : p = x.1.ents.length := by omega
      subst hpl
      rw [List.drop_of_length_le (Nat.le_refl _), List.append_nil] at d5
      have ok5 := ownT he5 tx ok4 (by decide)
      have ob5 := ownT he5 tx ob4 (by decide)
      have re5 := rowT re4 he5 tx (by decide)
      have rm5 := rowT rm4 he5 tx (by decide)
      refine LdL.mk ok5 rfl (New.mk fun nb w6 hnb hs6 on6 he6 => ?_)
      refine Vc.Append.mk (e := T_entsl) (news := [slv (vsOf x)]) (Row.ext re5 he6 (fun _ _ z => by cases z)) (CellsAt.own on6 (fun j v hj => by simpa [slv, vsOf] using hj)) rfl rfl rfl (by omega) (by omega) fun eb' ec' w7 re7 he7 hb7 => ?_
      have t7 := Tys.row (Row.ext re5 he6 (fun _ _ z => by cases z))
      have ok7 := ownT he7 t7 (he6.own ok5 (by simp)) (by decide)
      have ob7 := ownT he7 t7 (he6.own ob5 (by simp)) (by decide)
      have rm7 := rowT (Row.ext rm5 he6 (fun _ _ z => by cases z)) he7 t7 (by decide)
      refine Sts.mk ok7 (by simp) rfl fun w8 hs8 ok8 he8 => ?_
      have t8 := Tys.one ok7
      have rm8 := rowT rm7 he8 t8 (by decide)
      have ob8 := he8.own ob7 (by simpa using hbk)
      obtain ⟨kb, ekb, cs, ho8, hc8⟩ := rm8.at (i := n) (by omega) (by omega)
      refine pnOf ekb ⟨⟨by omega, by omega⟩, ?_⟩
      rw [Int.toNat_natCast, add_mk, Nat.zero_add]
      rw [ekb] at rm8
      refine Row.put (news := meC zM) rm8 (by show n * 10 + 10 ≤ l * 10; omega) rfl fun w9 hs9 rm9 he9 => ?_
      have fs := flat_set meC_len (L := List.replicate n zM ++ E.drop n) (i := n) (a' := zM) (by simp; omega)
      rw [show n * 10 + (meC zM).length = n * 10 + 10 from rfl, fs] at rm9
      have t9 : Tys w8 [kb] [T_api_Msg] := Tys.one ho8
      have e49 : ExtT w5 w9 [T_entsl, T_synclaw_Kept, T_api_Msg] := (((ExtT.nil he6 _).trans ((ExtT.of he7 t7).mono (by simp))).trans ((ExtT.of he8 t8).mono (by simp))).trans ((ExtT.of he9 t9).mono (by simp))
      have hkbb : kb ∈ rowBlk b := by rw [ekb]; simp [rowBlk]
      have z7 := he7.size
      refine ⟨l - (n + 1), by omega, n + 1, eb', ec', by omega, rfl, rfl, rfl, rfl, rfl, rfl, by rw [w64 (by omega) (by omega)]; omega, ?_, ?_, ?_, ?_, fun y hy => ?_, fun y hy => ?_, fun y hy => ?_, ?_, ?_⟩
      · exact ownT he9 t9 ok8 (by decide)
      · exact ownT he9 t9 ob8 (by decide)
      · rw [take_succ' hx, List.map_append, List.map_append]
        refine rowT (rowT re7 he8 t8 (by decide)) he9 t9 (by decide)
      · rw [ekb]
        rw [List.set_append_right _ _ (by simp), List.length_replicate, Nat.sub_self, hdr, List.set_cons_zero] at rm9
        rw [List.replicate_succ', List.append_assoc]
        exact rm9
      · rw [take_succ' hx] at hy
        rcases List.mem_append.1 hy with z | z
        · obtain ⟨j, hj⟩ := List.getElem?_of_mem z
          have hjn : j < n := by
            have := (List.getElem?_eq_some_iff.1 hj).1
            simp at this
            omega
          rw [List.getElem?_take, if_pos hjn] at hj
          exact e49.row (oth he5 y (List.mem_of_getElem? hj) (.inr trivial) j (by omega) hj (st4 y z)) (by decide)
        · simp at z
          subst z
          exact e49.row d5 (by decide)
      · obtain ⟨j, hj⟩ := List.getElem?_of_mem hy
        rw [List.getElem?_drop] at hj
        exact e49.row (oth he5 y (List.mem_of_getElem? hj) (.inr trivial) (n + 1 + j) (by omega) hj (dr4 y (by rw [hdr]; exact List.mem_cons_of_mem _ hy))) (by decide)
      · rcases hb7 y hy with z | z
        · exact hge4 y z
        · have := e4.size; omega
      · have := he6.size; omega
      · have f5 : Ext (rowBlk b ++ EB E) w w5 := e4.trans (he5.mono fun y hy _ => hxB y hy)
        have z5 := f5.size
        exact (((f5.trans he6.nil).trans' he7 (fun y hy hl => by have := hge4 y hy; omega)).trans' he8 (fun y hy hl => by simp at hy; omega)).trans (he9.mono fun y hy _ => by simp at hy; rw [hy]; exact List.mem_append.2 (.inl hkbb))
end
end Go.Proofs.Qxb6500433aGreat
