/-
  seg: the model's send buffer.
-/
import Derived.Test.Qxb6500426aSgE
set_option linter.unusedVariables false
set_option linter.unusedSimpArgs false
open Go.Vc
namespace Go.Proofs.Qxb6500426a

def smArr (db : Option Addr) (dl dc : Nat) (S : SbS) : Array Value := #[.int .i64 S.una, .slice db dl dc, .int .i64 (S.sent : Int)]
structure SM (w : World) (q : Nat) (db : Option Addr) (dl dc : Nat) (S : SbS) : Prop where
  own : Own w q (smArr db dl dc S) T_segm_SendBuf
  row : Row w db dl dc 1 T_uint8 (U8 S.D)
/-- What a changing call leaves. -/
def SMOut (w : World) (q : Nat) (db : Option Addr) (S' : SbS) (K : World → Prop) : Prop :=
  ∀ db' dl' dc' w', SM w' q db' dl' dc' S' → Ext [q] w w' → (∀ k ∈ rowBlk db', k ∈ rowBlk db ∨ w.heap.size ≤ k) → K w'
section
variable {w : World} {q : Nat} {db : Option Addr} {dl dc : Nat} {S : SbS}
theorem SM.len (h : SM w q db dl dc S) : S.D.length = dl := by have := h.row.1; rw [U8_length] at this; omega
theorem SM.ext {w' : World} {X : List Nat} (h : SM w q db dl dc S) (he : Ext X w w') (hx : ∀ k ∈ q :: rowBlk db, k ∉ X) : SM w' q db dl dc S :=
  ⟨he.own h.own (hx q (List.mem_cons_self ..)), h.row.ext he fun k hk => hx k (List.mem_cons_of_mem _ hk)⟩
theorem SM.ext0 {w' : World} (h : SM w q db dl dc S) (he : Ext [] w w') : SM w' q db dl dc S := h.ext he (fun k _ h => by cases h)
theorem SM.drew (h : SM w q db dl dc S) : SM w.drew q db dl dc S := h.ext0 (Ext.drew _ _)
theorem SM.out (h : SM w q db dl dc S) : q ∉ rowBlk db := fun hx => by
  obtain ⟨_, ho'⟩ := h.row.ty hx
  exact Own.ne_type h.own ho' (by decide) rfl
theorem SM.rd (h : SM w q db dl dc S) (hS : SbOk S) : Rd w db S.D := row_rd h.row hS.isB
theorem SM.ldUna {K : Int → Prop} (h : SM w q db dl dc S) (hk : K S.una) : LdI .i64 ⟨q, 0, none⟩ w K := LdI.mk h.own rfl hk
theorem SM.ldD {K : Option Addr → Nat → Nat → Prop} (h : SM w q db dl dc S) (hk : K db dl dc) : LdL (Addr.add ⟨q, 0, none⟩ 1) w K := by
  rw [add_mk]
  exact LdL.mk h.own rfl hk
theorem SM.ldSent {K : Int → Prop} (h : SM w q db dl dc S) (hk : K (S.sent : Int)) : LdI .i64 (Addr.add ⟨q, 0, none⟩ 2) w K := by
  rw [add_mk]
  exact LdI.mk h.own rfl hk
theorem mNew_ok {R : Option Addr → World → Prop} (hR : ∀ q w', w.heap.size ≤ q → SM w' q none 0 0 S0s → Ext [] w w' → R (some ⟨q, 0, none⟩) w') : segm_NewSendBuf.Call w R := by
  apply segm_NewSendBuf.sound
  unfold segm_NewSendBuf.B0
  exact New.mk fun p w1 e1 s1 o1 he1 => hR p w1 (by omega) ⟨o1, Row.nil _ _ _⟩ he1
theorem mUna_ok {R : Int → World → Prop} (h : SM w q db dl dc S) (hR : R S.una w) : segm_SendBuf_Una.Call (some ⟨q, 0, none⟩) w R := by
  apply segm_SendBuf_Una.sound
  unfold segm_SendBuf_Una.B0
  exact Pn.mk (h.ldUna hR)
theorem mNxt_ok {R : Int → World → Prop} (h : SM w q db dl dc S) (hR : ∀ w', Ext [] w w' → R (nxtS S) w') : segm_SendBuf_Nxt.Call (some ⟨q, 0, none⟩) w R := by
  apply segm_SendBuf_Nxt.sound
  unfold segm_SendBuf_Nxt.B0
  exact Pn.mk (h.drew.ldUna (Pn.mk (h.drew.ldSent (seqAdd_ok (hR _ (Ext.drew _ _))))))
theorem mLen_ok {R : Int → World → Prop} (h : SM w q db dl dc S) (hR : R (S.D.length : Int) w) : segm_SendBuf_Len.Call (some ⟨q, 0, none⟩) w R := by
  apply segm_SendBuf_Len.sound
  unfold segm_SendBuf_Len.B0
  rw [h.len] at hR
  exact Pn.mk (h.ldD hR)
theorem mUnsent_ok {R : Int → World → Prop} (h : SM w q db dl dc S) (hS : SbOk S) (hR : ∀ w', Ext [] w w' → R ((S.D.length : Int) - (S.sent : Int)) w') : segm_SendBuf_Unsent.Call (some ⟨q, 0, none⟩) w R := by
  apply segm_SendBuf_Unsent.sound
  unfold segm_SendBuf_Unsent.B0
  have := h.len
  have := hS.len
  have := hS.sent
  refine Pn.mk (h.drew.ldD (Pn.mk (h.drew.ldSent ?_)))
  rw [w64 (by omega) (by omega), ← h.len]
  exact hR _ (Ext.drew _ _)
theorem mBytes_ok {R : Option Addr → Nat → Nat → World → Prop} (h : SM w q db dl dc S) (hS : SbOk S) (hR : ∀ k w', w.heap.size ≤ k → Bf w' k S.D → Ext [] w w' → R (some ⟨k, 0, none⟩) S.D.length S.D.length w') : segm_SendBuf_Bytes.Call (some ⟨q, 0, none⟩) w R := by
  apply segm_SendBuf_Bytes.sound
  unfold segm_SendBuf_Bytes.B0
  have hl := h.len
  have := hS.len
  refine Pn.mk (h.ldD (copyBytes_ok (h.rd hS) hl (by omega) fun k w' hk hs hf he => ?_))
  rw [hl] at hR
  exact hR k w' (by omega) hf he
theorem mAgain_ok {mx : Int} {R : Int → Option Addr → Nat → Nat → World → Prop} (h : SM w q db dl dc S) (hS : SbOk S) (hR : ∀ k w', w.heap.size ≤ k → Bf w' k (S.D.take (leastN mx S.sent)) → Ext [] w w' → R S.una (some ⟨k, 0, none⟩) (leastN mx S.sent) (leastN mx S.sent) w') : segm_SendBuf_Again.Call (some ⟨q, 0, none⟩) mx w R := by
  apply segm_SendBuf_Again.sound
  unfold segm_SendBuf_Again.B0
  have hl := h.len
  have hs := hS.sent
  have hl2 := hS.len
  have hc := h.row.2.1
  have hn := leastN_le mx S.sent
  have go : segm_SendBuf_Again.B2 (some ⟨q, 0, none⟩) (leastN mx S.sent : Int) w R := by
    unfold segm_SendBuf_Again.B2
    have hd := h.drew
    refine Pn.mk (hd.ldUna (Pn.mk (hd.ldD ⟨⟨by omega, by omega⟩, ?_⟩)))
    rw [slBase0, show (leastN mx S.sent : Int).toNat - ((0 : Nat) : Int).toNat = leastN mx S.sent by omega]
    refine copyBytes_ok ((hd.rd hS).take (leastN mx S.sent)) (by simp; omega) (by omega) fun k w' hk hs' hf he => ⟨?_, hR k w' (by have : w.drew.heap.size = w.heap.size := rfl; omega) hf ((Ext.drew _ _).trans he)⟩
    exact (he.own hd.own (by simp)).cell rfl
  have b1 : ∀ n : Int, ((min mx (S.sent : Int)) = n) → segm_SendBuf_Again.B1 (some ⟨q, 0, none⟩) n w R := fun n e => by
    unfold segm_SendBuf_Again.B1
    refine Bm.ite (fun hc => ?_) fun hc => ?_
    · have : ((leastN mx S.sent : Nat) : Int) = 0 := by unfold leastN; omega
      rw [this] at go
      exact go
    · have : ((leastN mx S.sent : Nat) : Int) = n := by unfold leastN; omega
      rw [this] at go
      exact go
  refine Pn.mk (h.ldSent (Bm.ite (fun hc => b1 _ (by omega)) fun hc => b1 _ (by omega)))
theorem mNext_ok {mx : Int} {R : Int → Option Addr → Nat → Nat → World → Prop} (h : SM w q db dl dc S) (hS : SbOk S) (hR : ∀ k w', w.heap.size ≤ k → Bf w' k ((S.D.drop S.sent).take (leastN mx (S.D.length - S.sent))) → SM w' q db dl dc (nextA mx S) → Ext [q] w w' → R (nxtS S) (some ⟨k, 0, none⟩) (leastN mx (S.D.length - S.sent)) (leastN mx (S.D.length - S.sent)) w') : segm_SendBuf_Next.Call (some ⟨q, 0, none⟩) mx w R := by
  apply segm_SendBuf_Next.sound
  unfold segm_SendBuf_Next.B0
  have hl := h.len
  have hs := hS.sent
  have hl2 := hS.len
  have hc := h.row.2.1
  have hn := leastN_le mx (S.D.length - S.sent)
  generalize hN : leastN mx (S.D.length - S.sent) = N at hn hR
  have zd : w.drew.heap.size = w.heap.size := rfl
  have go : segm_SendBuf_Next.B2 (some ⟨q, 0, none⟩) (N : Int) w.drew R := by
    unfold segm_SendBuf_Next.B2
    refine mNxt_ok h.drew fun w1 he1 => ?_
    have h1 := (h.drew.ext0 he1).drew
    refine Pn.mk (h1.ldD (Pn.mk (h1.ldSent (Pn.mk (h1.ldSent ?_)))))
    rw [w64 (x := (S.sent : Int) + (N : Int)) (by omega) (by omega)]
    refine ⟨⟨by omega, by omega⟩, ⟨by omega, by omega⟩, ?_⟩
    rw [show ((S.sent : Int) + (N : Int)).toNat - (S.sent : Int).toNat = N by omega]
    refine copyBytes_ok (((h1.rd hS).drop S.sent (by omega)).take N) (by simp; omega) (by omega) fun k w2 hk hs2 hf he2 => ?_
    have h2 := h1.ext0 he2
    refine Pn.mk (h2.ldSent (Pn.mk ?_))
    rw [w64 (by omega) (by omega), add_mk, Nat.zero_add]
    have z1 := he1.size
    have zz : w1.drew.heap.size = w1.heap.size := rfl
    have zq := h.own.lt
    refine Sts.mk h2.own (by simp [smArr]) rfl fun w3 hs3 o3 he3 => hR k w3 (by omega) (hf.ext he3 (by simp; omega)) ⟨?_, ?_⟩ ((((Ext.drew [] w).trans he1).trans ((Ext.drew [] w1).trans he2)).nil.trans he3)
    · have e : putArr (smArr db dl dc S) 2 [.int .i64 ((S.sent : Int) + (N : Int))] = smArr db dl dc (nextA mx S) := by
        unfold nextA
        rw [hN, show ((S.sent : Int) + (N : Int)) = ((S.sent + N : Nat) : Int) by omega]
        rfl
      rw [← e]
      exact o3
    · exact h2.row.ext he3 (fun k hk hx => by simp at hx; subst hx; exact h.out hk)
  have b1 : ∀ n : Int, ((min mx ((S.D.length - S.sent : Nat) : Int)) = n) → segm_SendBuf_Next.B1 (some ⟨q, 0, none⟩) n w.drew R := fun n e => by
    unfold segm_SendBuf_Next.B1
    refine Bm.ite (fun hc => ?_) fun hc => ?_
    · have : ((N : Nat) : Int) = 0 := by rw [← hN]; unfold leastN; omega
      rw [this] at go
      exact go
    · have : ((N : Nat) : Int) = n := by rw [← hN]; unfold leastN; omega
      rw [this] at go
      exact go
  refine Pn.mk (h.drew.ldD (Pn.mk (h.drew.ldSent ?_)))
  rw [w64 (by omega) (by omega), ← hl]
  exact Bm.ite (fun hc => b1 _ (by omega)) fun hc => b1 _ (by omega)
theorem mReset_ok {seq : Int} {R : World → Prop} (h : SM w q db dl dc S) (hR : SMOut w q db (resetS seq) R) : segm_SendBuf_Reset.Call (some ⟨q, 0, none⟩) seq w R := by
  apply segm_SendBuf_Reset.sound
  unfold segm_SendBuf_Reset.B0
  refine seqAdd_ok (Pn.mk (Sts.mk h.own (by simp [smArr]) rfl fun w1 hs1 o1 he1 => Pn.mk ?_))
  rw [add_mk, Nat.zero_add]
  refine Sts.mk o1 (by rw [size_putArr]; simp [smArr]) rfl fun w2 hs2 o2 he2 => Pn.mk ?_
  rw [add_mk, Nat.zero_add]
  refine Sts.mk o2 (by rw [size_putArr, size_putArr]; simp [smArr]) rfl fun w3 hs3 o3 he3 => hR none 0 0 w3 ⟨o3, Row.nil _ _ _⟩ ((he1.trans he2).trans he3) fun k hk => by simp [rowBlk] at hk
theorem mPut_ok {P : List Int} {pb : Option Addr} {pl pc : Nat} {R : Int → World → Prop} (h : SM w q db dl dc S) (hS : SbOk S) (hP : Rd w pb P) (hl : P.length = pl) (hc : pl ≤ pc)
    (hR : SMOut w q db (putA P S).2 (R ((putA P S).1 : Int))) : segm_SendBuf_Put.Call (some ⟨q, 0, none⟩) pb pl pc w R := by
  apply segm_SendBuf_Put.sound
  unfold segm_SendBuf_Put.B0
  have hdl := h.len
  have hl2 := hS.len
  unfold putA at hR
  generalize hn : min P.length (16 - S.D.length) = n at hR
  have go : segm_SendBuf_Put.B1 (some ⟨q, 0, none⟩) pb pl pc (n : Int) w R := by
    unfold segm_SendBuf_Put.B1
    have hd := h.drew
    refine Pn.mk (hd.ldD ⟨⟨by omega, by omega⟩, ?_⟩)
    refine copyBytes_ok (hd.rd hS) hdl (by omega) fun k w1 hk hs1 hf he1 => ?_
    rw [slBase0, show (n : Int).toNat - ((0 : Nat) : Int).toNat = n by omega]
    have ex1 : Ext [] w w1 := (Ext.drew _ _).trans he1
    have zd : w.drew.heap.size = w.heap.size := rfl
    have hrow := hf.row
    rw [hdl] at hrow
    refine app8 hrow ((hP.ext0 ex1).take n) (by simp; omega) (by omega) fun b' c' w2 hr2 he2 hb2 => Pn.mk ?_
    have h2 := ((h.ext0 ex1).own)
    have zq := h.own.lt
    have o2 := he2.own h2 (by simp [rowBlk]; omega)
    rw [add_mk, Nat.zero_add]
    refine Sts.mk o2 (by simp [smArr]) rfl fun w3 hs3 o3 he3 => hR b' (dl + n) c' w3 ⟨o3, ?_⟩ ?_ fun k' hk' => ?_
    · exact hr2.ext he3 (fun k' hk' hx => by
        simp at hx
        subst hx
        obtain ⟨_, ho'⟩ := hr2.ty hk'
        exact Own.ne_type o2 ho' (by decide) rfl)
    · exact ((ex1.trans' he2 (fun x hx hlt => by simp [rowBlk] at hx; omega)).nil).trans he3
    · rcases hb2 k' hk' with q' | q'
      · simp [rowBlk] at q'; exact .inr (by omega)
      · exact .inr (by have := ex1.size; omega)
  refine Pn.mk (h.ldD ?_)
  rw [w64 (by omega) (by omega)]
  refine Bm.ite (fun hc => ?_) fun hc => ?_
  · have : ((n : Nat) : Int) = ((pl : Nat) : Int) := by omega
    rw [this] at go
    exact go
  · have : ((n : Nat) : Int) = (16 : Int) - ((dl : Nat) : Int) := by omega
    rw [this] at go
    exact go
theorem mAck_ok {a : Int} {R : Int → World → Prop} (h : SM w q db dl dc S) (hS : SbOk S) (hR : SMOut w q db (ackA a S).2 (R (ackA a S).1)) : segm_SendBuf_Ack.Call (some ⟨q, 0, none⟩) a w R := by
  apply segm_SendBuf_Ack.sound
  unfold segm_SendBuf_Ack.B0
  have hdl := h.len
  have hl2 := hS.len
  have hs := hS.sent
  have hcap := h.row.2.1
  refine Pn.mk (h.ldUna (seqDiff_ok ?_))
  unfold ackA at hR
  have bad : (sqDiff a S.una ≤ 0 ∨ (S.sent : Int) < sqDiff a S.una) → segm_SendBuf_Ack.B1 (some ⟨q, 0, none⟩) (sqDiff a S.una) true w R := fun hc => by
    unfold segm_SendBuf_Ack.B1
    rw [if_pos hc] at hR
    exact Bm.pos rfl (hR db dl dc w h (Ext.refl _ _) fun k hk => .inl hk)
  refine Bm.ite (fun hc => bad (.inl hc)) fun hc => Pn.mk (h.ldSent ?_)
  by_cases hc2 : sqDiff a S.una > (S.sent : Int)
  · rw [decide_eq_true hc2]; exact bad (.inr hc2)
  rw [decide_eq_false hc2]
  rw [if_neg (by omega)] at hR
  obtain ⟨d, hd⟩ : ∃ d : Nat, sqDiff a S.una = (d : Int) := ⟨(sqDiff a S.una).toNat, by omega⟩
  rw [hd] at hR hc hc2 ⊢
  rw [Int.toNat_natCast] at hR
  unfold segm_SendBuf_Ack.B1
  refine Bm.neg rfl (Pn.mk (h.ldD ⟨⟨by omega, by omega⟩, ?_⟩))
  rw [show ((dl : Nat) : Int).toNat - (d : Int).toNat = dl - d by omega]
  refine copyBytes_ok ((h.rd hS).drop d (by omega)) (by simp; omega) (by omega) fun k w1 hk hs1 hf he1 => Pn.mk ?_
  have h1 := h.ext0 he1
  have zq := h.own.lt
  rw [add_mk, Nat.zero_add]
  refine Sts.mk h1.own (by simp [smArr]) rfl fun w2 hs2 o2 he2 => Pn.mk ?_
  have o2' : Own w2 q (smArr (some ⟨k, 0, none⟩) (dl - d) (dl - d) S) T_segm_SendBuf := o2
  rw [add_mk, Nat.zero_add]
  refine LdI.mk o2' rfl (Pn.mk ?_)
  rw [w64 (by omega) (by omega), show (S.sent : Int) - (d : Int) = ((S.sent - d : Nat) : Int) by omega, add_mk, Nat.zero_add]
  refine Sts.mk o2' (by simp [smArr]) rfl fun w3 hs3 o3 he3 => Pn.mk (LdI.mk o3 rfl (seqAdd_ok (Pn.mk (Sts.mk o3 (by rw [size_putArr]; simp [smArr]) rfl fun w4 hs4 o4 he4 => hR (some ⟨k, 0, none⟩) (dl - d) (dl - d) w4 ⟨o4, ?_⟩ ((((he1.nil).trans he2).trans he3).trans he4) fun k' hk' => ?_))))
  · have hf4 := ((hf.ext he2 (by simp; omega)).ext he3 (by simp; omega)).ext he4 (by simp; omega)
    have hr4 := hf4.row
    have e : (S.D.drop d).length = dl - d := by simp; omega
    rw [e] at hr4
    exact hr4
  · simp [rowBlk] at hk'
    exact .inr (by omega)
end
end Go.Proofs.Qxb6500426a
