/-
  hostlaw: Put.
-/
import Derived.Test.Qxb6500424aGreatHmF
set_option linter.unusedVariables false
set_option linter.unusedSimpArgs false
open Go.Vc
namespace Go.Proofs.Qxb6500424aGreat
section
variable {w0 w w' : World} {a c : Nat} {m : LH} {r : LR} {k : LC} {B : HB} {h : HS} {n : Int}
theorem LawAt.stI1 {k' : LC} {o : Nat} {v : Value} {K : World → Prop} (hL : LawAt w0 w a m r k) (ho : o < 50 ∧ (43 ≤ o ∨ o = 28)) (h1 : v.oneCell' = true) (h0 : lawF m r k' o = v) (h2 : k'.top = k.top ∧ k'.lost = k.lost ∧ k'.out = k.out) (h3 : (o = 28 ∨ k'.calm = k.calm) ∧ (o = 43 ∨ k'.tk = k.tk) ∧ (o = 44 ∨ k'.fl = k.fl) ∧ (o = 45 ∨ k'.sp = k.sp))
    (hK : ∀ w', w'.heap.size = w.heap.size → LawAt w0 w' a m r k' → Ext [a] w w' → K w') : Sts [v] (Addr.add ⟨a, 0, none⟩ o) 0 w K := by
  rw [addA]
  refine hL.stC (k' := k') ho.1 h1 (fun j z => ne_c h0 fun hj => ?_) hK
  exact lawF_other (o := o) ho.2 hj ⟨rfl, rfl, rfl, rfl, rfl⟩ h2 ⟨h3.1, h3.2.1, h3.2.2.1, h3.2.2.2, .inr ⟨rfl, rfl, rfl⟩, .inr rfl, .inr rfl, .inr rfl⟩ z
theorem FrL.keepL {b : Option Addr} {l cc lo lo0 : Nat} {F : List (List Int × Nat)} {ts : List TypeId} (hF : FrL w b l cc lo F) (he : ExtL lo0 w w' ts) (h1 : (81 : TypeId) ∉ ts) (h2 : T_uint8 ∉ ts) : FrL w' b l cc lo F := by
  obtain ⟨X, e, t, _⟩ := he
  exact hF.keepT e t h1 h2
/-- What Put has done. -/
structure PutR (r r' : LR) (F : List (List Int × Nat)) (same : Prop) : Prop where
  eq : ∃ W' M O tok, r' = { r with W := W', M := M, O := O, tok := tok }
  W : ∀ e ∈ r'.W, e ∈ r.W ∨ ∃ f ∈ F, e.1 = ⟨f.1, 0, false⟩
  all : same → r'.W.map (·.1) = r.W.map (·.1) ++ F.map fun f => (⟨f.1, 0, false⟩ : FL)
theorem nFirst_take {F : List (List Int × Nat)} {q : Nat} {e : List Int × Nat} (he : F[q]? = some e) : nFirst ((F.take (q + 1)).map (·.1)) = nFirst ((F.take q).map (·.1)) + if frF e.1 = true then 1 else 0 := by
  rw [List.take_add_one, he, List.map_append, nFirst_app]
  congr 1
  simp only [Option.toList, List.map_cons, List.map_nil, nFirst, List.filter_cons, List.filter_nil]
  split <;> rfl
theorem put_ok {b : Option Addr} {l cc lo : Nat} {F : List (List Int × Nat)} {R : World → Prop} (hL : LawAt w0 w a m r k) (hc : c < 3) (hF : FrL w b l cc lo F) (hlo : w0.heap.size ≤ lo) (hl : l ≤ 1000) (hM : r.M.n + l ≤ 4398046511104) (hO : r.O.n ≤ 4398046511104) (hfr : ∀ e ∈ F, ¬ U8F r e.2 ∧ e.1.length ≤ 1000000) (hb : ∀ y ∈ rowBlk b, ¬ F81 r y)
    (h12 : nFirst (F.map (·.1)) ≤ 12) (hsp : 0 ≤ k.sp ∧ k.sp ≤ 1152921504606846976) (hout : 0 ≤ k.out c ∧ k.out c ≤ 1000)
    (hR : ∀ r' sp' w', LawAt w0 w' a m r' { k with out := updI k.out c (k.out c + (nFirst (F.map (·.1)) : Int)), sp := sp' } → PutR r r' F (sp' = k.sp) → r'.M.n ≤ r.M.n + l → r'.O.n ≤ r.O.n + 1 → k.sp ≤ sp' → sp' ≤ k.sp + l → R w') : hostlaw_World_Put.Call (some ⟨a, 0, none⟩) (c : Int) b l cc w R := by
  apply hostlaw_World_Put.sound
  unfold hostlaw_World_Put.B0 hostlaw_World_Put.L1
  have hFl := hF.len
  refine ⟨fun mm a' c' b' l' cc' kk i w' => ∃ (q : Nat) (W' : List (FL × Nat)) (sp' : Int) (K' : LC), q ≤ l ∧ mm = l - q ∧ some ⟨a, 0, none⟩ = a' ∧ (c : Int) = c' ∧ b = b' ∧ l = l' ∧ cc = cc' ∧ i = (q : Int) ∧ kk = (nFirst ((F.take q).map (·.1)) : Int) ∧ K' = { k with out := updI k.out c (k.out c + kk), sp := sp' } ∧ LawAt w0 w' a m { r with W := W' } K' ∧ FrL w' b l cc lo F ∧ (∀ e ∈ W', e ∈ r.W ∨ ((∃ f ∈ F, e.1 = ⟨f.1, 0, false⟩) ∧ w.heap.size ≤ e.2)) ∧ k.sp ≤ sp' ∧ sp' ≤ k.sp + q ∧ w.heap.size ≤ w'.heap.size ∧ (sp' = k.sp → W'.map (·.1) = r.W.map (·.1) ++ (F.take q).map fun f => (⟨f.1, 0, false⟩ : FL)), l,
    ⟨0, r.W, k.sp, k, by omega, rfl, rfl, rfl, rfl, rfl, rfl, rfl, rfl, ?_, hL, hF, fun e he => .inl he, by omega, by omega, Nat.le_refl _, fun _ => by simp⟩, ?_⟩
  · have : updI k.out c (k.out c + 0) = k.out := by
      funext j
      unfold updI
      split
      · rename_i e; rw [e]; omega
      · rfl
    rw [this]
  rintro mm a' c' b' l' cc' kk i w' ⟨q, W', sp', K', hq, rfl, rfl, rfl, rfl, rfl, rfl, rfl, rfl, eK, h', F', hW', s1, s2, hz, hall⟩
  unfold hostlaw_World_Put.L1b
  have hnt : nFirst ((F.take q).map (·.1)) ≤ 12 := by
    have : F.map (·.1) = (F.take q).map (·.1) ++ (F.drop q).map (·.1) := by rw [← List.map_append, List.take_append_drop]
    rw [this, nFirst_app] at h12
    omega
  refine Bm.ite (fun hlt => ?_) fun hge => ?_
  · obtain ⟨e, he⟩ : ∃ e, F[q]? = some e := ⟨_, List.getElem?_eq_getElem (by omega)⟩
    have hem := List.mem_of_getElem? he
    have hnx := nFirst_take he
    have fin : ∀ {w2 : World} {K2 : LC} {kk2 : Int}, kk2 = (nFirst ((F.take (q + 1)).map (·.1)) : Int) → K2 = { k with out := updI k.out c (k.out c + kk2), sp := sp' } → LawAt w0 w2 a m { r with W := W' } K2 → FrL w2 b l cc lo F → w.heap.size ≤ w2.heap.size → hostlaw_World_Put.B1 (some ⟨a, 0, none⟩) (c : Int) b l cc kk2 (q : Int) w2 (fun a' c' b' l' cc' kk i w' => ∃ m', m' < l - q ∧ ∃ (q : Nat) (W' : List (FL × Nat)) (sp' : Int) (K' : LC), q ≤ l ∧ m' = l - q ∧ some ⟨a, 0, none⟩ = a' ∧ (c : Int) = c' ∧ b = b' ∧ l = l' ∧ cc = cc' ∧ i = (q : Int) ∧ kk = (nFirst ((F.take q).map (·.1)) : Int) ∧ K' = { k with out := updI k.out c (k.out c + kk), sp := sp' } ∧ LawAt w0 w' a m { r with W := W' } K' ∧ FrL w' b l cc lo F ∧ (∀ e ∈ W', e ∈ r.W ∨ ((∃ f ∈ F, e.1 = ⟨f.1, 0, false⟩) ∧ w.heap.size ≤ e.2)) ∧ k.sp ≤ sp' ∧ sp' ≤ k.sp + q ∧ w.heap.size ≤ w'.heap.size ∧ (sp' = k.sp → W'.map (·.1) = r.W.map (·.1) ++ (F.take q).map fun f => (⟨f.1, 0, false⟩ : FL))) R := fun {w2 K2 kk2} e1 eK2 h2 F2 z2 => by
      unfold hostlaw_World_Put.B1
      have F2d := F2.ext0 (Ext.drew [] w2)
      have h2d := h2.drew
      refine Pn.mk (h2d.ldW (frL_ld F2d he (wPut_ok h2d.r.W (F2d.dat e hem).rd0 rfl (by have := (hfr e hem).2; omega) (fun hfull => ?_) (fun hput kb w3 hkb hw3 t3 => ?_))))
      · refine Bm.pos rfl (Pn.mk (h2d.ldI (v := sp') (by omega) (by rw [eK2]; rfl) (Pn.mk ?_)))
        rw [w64 (by omega) (by omega)]
        refine h2d.stI1 (k' := { K2 with sp := sp' + 1 }) (by omega) rfl rfl ⟨rfl, rfl, rfl⟩ ⟨.inr rfl, .inr rfl, .inr rfl, .inl rfl⟩ fun w3 hs3 h3 e3 => ?_
        have z3 := e3.size
        have zd : w2.drew.heap.size = w2.heap.size := rfl
        unfold hostlaw_World_Put.B3
        exact ⟨l - (q + 1), by omega, q + 1, W', sp' + 1, _, by omega, rfl, rfl, rfl, rfl, rfl, rfl, by rw [w64 (by omega) (by omega)]; omega, e1, by rw [eK2], h3, F2d.keepT e3 (Tys.one h2d.own) (by decide) (by decide), hW', by omega, by omega, by omega, fun z => by omega⟩
      · have z3 := t3.size
        have zd : w2.drew.heap.size = w2.heap.size := rfl
        refine Bm.neg rfl ?_
        unfold hostlaw_World_Put.B3
        have h3 := h2d.wire hw3 t3 (fun x hx => by
          rcases List.mem_append.1 hx with y | y
          · exact .inl ⟨x, y, rfl⟩
          · rw [List.mem_singleton.1 y]; exact .inr hkb)
        refine ⟨l - (q + 1), by omega, q + 1, _, sp', K2, by omega, rfl, rfl, rfl, rfl, rfl, rfl, by rw [w64 (by omega) (by omega)]; omega, e1, eK2, h3, F2d.keepL t3 (by decide) (by decide), fun x hx => ?_, s1, by omega, by omega, fun z => (by rw [List.map_append, hall z, List.take_add_one, he, List.map_append, List.append_assoc]; rfl)⟩
        rcases List.mem_append.1 hx with y | y
        · exact hW' x y
        · rw [List.mem_singleton.1 y]
          exact .inr ⟨⟨e, hem, rfl⟩, by show _ ≤ kb; omega⟩
    refine frL_ld F' he (firstFrag_ok (F'.dat e hem).rd0 rfl (Bm.mk (fun z => ?_) fun z => ?_))
    · rw [z, if_pos rfl] at hnx
      have hd := h'.drew
      have eo : K'.out c = k.out c + (nFirst ((F.take q).map (·.1)) : Int) := by rw [eK]; exact updI_at _ _ _
      refine Pn.mk ⟨⟨by omega, by omega⟩, hd.ldOut hc (Pn.mk ⟨⟨by omega, by omega⟩, ?_⟩)⟩
      rw [eo, w64 (by omega) (by omega), w64 (by omega) (by omega)]
      refine hd.stOut hc fun w2 hs2 h2 e2 => fin (by rw [hnx]; push_cast; rfl) ?_ h2 (F'.ext0 (Ext.drew [] w') |>.keepT e2 (Tys.one hd.own) (by decide) (by decide)) (by have := e2.size; have zd : w'.drew.heap.size = w'.heap.size := rfl; omega)
      rw [eK]
      have : updI (updI k.out c (k.out c + (nFirst ((F.take q).map (·.1)) : Int))) c (k.out c + (nFirst ((F.take q).map (·.1)) : Int) + 1) = updI k.out c (k.out c + ((nFirst ((F.take q).map (·.1)) : Int) + 1)) := by
        funext j
        unfold updI
        split
        · omega
        · rfl
      show ({ k with out := updI (updI k.out c (k.out c + (nFirst ((F.take q).map (·.1)) : Int))) c (k.out c + (nFirst ((F.take q).map (·.1)) : Int) + 1), sp := sp' } : LC) = _
      rw [this]
    · rw [z, if_neg (by simp)] at hnx
      exact fin (by rw [hnx]; rfl) eK h' F' hz
  · have hql : q = l := by omega
    subst hql
    rw [List.take_of_length_le (by omega)] at hnt
    have etk : F.take q = F := List.take_of_length_le (by omega)
    rw [etk] at eK ⊢
    refine Bm.neg (decide_eq_false (by omega)) ?_
    unfold hostlaw_World_Put.B2
    refine ownAll_ok h' F' hlo hl hM hO (fun e he => ⟨fun z => ?_, (hfr e he).2⟩) hb fun r' w2 h2 n2 o2 ow => ?_
    · have hlt := (hF.dat e he).lt
      rcases z with z | ⟨x, hx, z⟩
      · exact (hfr e he).1 (.inl z)
      · rcases hW' x hx with y | ⟨_, y⟩
        · exact (hfr e he).1 (.inr ⟨x, y, z⟩)
        · omega
    · obtain ⟨M, O, tok, rfl⟩ := ow.kr
      subst eK
      exact hR _ sp' w2 h2 ⟨⟨W', M, O, tok, rfl⟩, fun e he => (hW' e he).imp id (fun z => z.1), fun z => (by have := hall z; rw [etk] at this; exact this)⟩ n2 o2 s1 s2
end
end Go.Proofs.Qxb6500424aGreat
