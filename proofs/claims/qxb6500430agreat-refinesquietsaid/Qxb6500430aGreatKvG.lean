/-
  kv: put, run, Apply of the real layer.
-/
import Derived.Test.Qxb6500430aGreatKvF
set_option linter.unusedVariables false
open Go.Vc
namespace Go.Proofs.Qxb6500430aGreat.Kv

/-- A command's work on the pairs: answer, pairs. -/
def runA (c : CmdS) (A : List Pair) : (Int × ByteArray) × List Pair := match lookA A c.key with
  | none => if c.op = 1 then (if 4 ≤ A.length then ((6, estr), A) else ((0, estr), insK kB (c.key, c.val) A)) else ((2, estr), A)
  | some old => if c.op = 1 then ((0, estr), setA c.key c.val A) else if c.op = 2 then ((0, old), A) else if c.op = 3 then ((0, old), delA c.key A) else if old = c.old then ((0, estr), setA c.key c.val A) else ((11, old), A)
structure KvS where
  A : List Pair
  S : Ss
def applyA (data : ByteArray) (s : KvS) : (Int × ByteArray) × KvS := match decCmd data with
  | none => ((9, estr), s)
  | some c => if c.seq < (s.S c.cl.toNat).1 then ((10, estr), s) else if c.seq = (s.S c.cl.toNat).1 then ((s.S c.cl.toNat).2, s) else ((runA c s.A).1, ⟨(runA c s.A).2, updS s.S c.cl.toNat (c.seq, (runA c s.A).1)⟩)
theorem lookA_absent {A : List Pair} (h : AOk A) {k : ByteArray} (hn : lookA A k = none) : ∀ x ∈ A, x.1 ≠ k := fun x hx e => by
  subst e
  rw [lookA_some h hx] at hn
  cases hn
theorem delA_length {A : List Pair} (h : AOk A) {q : Pair} (hq : q ∈ A) : (delA q.1 A).length + 1 = A.length := by
  have := (A_perm h hq estr).1.length_eq
  simpa using this.symm
theorem runA_ok {c : CmdS} {A : List Pair} (hc : CmdP c) (h : AOk A) (hl : A.length ≤ 4) : AOk (runA c A).2 ∧ (runA c A).2.length ≤ 4 ∧ 0 ≤ (runA c A).1.1 ∧ (runA c A).1.1 < 16 ∧ (runA c A).1.2.size ≤ 3 := by
  have hp : PairOk (c.key, c.val) := ⟨hc.2.1.1, hc.2.1.2.1, hc.2.1.2.2.1⟩
  have e0 : estr.size ≤ 3 := by decide
  unfold runA
  split
  · rename_i hn
    split
    · split
      · exact ⟨h, hl, (by dsimp only; omega), (by dsimp only; omega), e0⟩
      · refine ⟨h.ins hp (lookA_absent h hn), ?_, (by dsimp only; omega), (by dsimp only; omega), e0⟩
        show (insK kB _ A).length ≤ 4
        rw [insK_length]
        omega
    · exact ⟨h, hl, (by dsimp only; omega), (by dsimp only; omega), e0⟩
  · rename_i old ho
    have hm := lookA_inv ho
    have hos := (h.2 _ hm).2.2
    split
    · exact ⟨h.set ⟨hc.2.1.1, hc.2.1.2.1⟩ hc.2.1.2.2.1, by rw [setA_length]; exact hl, (by dsimp only; omega), (by dsimp only; omega), e0⟩
    · split
      · exact ⟨h, hl, (by dsimp only; omega), (by dsimp only; omega), hos⟩
      · split
        · refine ⟨h.del _, ?_, (by dsimp only; omega), (by dsimp only; omega), hos⟩
          have := delA_length h hm
          show (delA c.key A).length ≤ 4
          simp only at this
          omega
        · split
          · exact ⟨h.set ⟨hc.2.1.1, hc.2.1.2.1⟩ hc.2.1.2.2.1, by rw [setA_length]; exact hl, (by dsimp only; omega), (by dsimp only; omega), e0⟩
          · exact ⟨h, hl, (by dsimp only; omega), (by dsimp only; omega), hos⟩
theorem applyA_ok {data : ByteArray} {s : KvS} (h : KvOk s.A s.S) : KvOk (applyA data s).2.A (applyA data s).2.S := by
  unfold applyA
  split
  · exact h
  · rename_i c hd
    have hc := decCmd_ok hd
    split
    · exact h
    · split
      · exact h
      · have hr := runA_ok hc h.a h.le
        refine ⟨hr.1, hr.2.1, fun i hi => ?_⟩
        show SessOk (updS _ _ _ i)
        by_cases e : i = c.cl.toNat
        · rw [e, updS_eq]
          exact ⟨by have := hc.1; simp only; omega, by have := hc.1; simp only; omega, hr.2.2.1, hr.2.2.2.1, hr.2.2.2.2⟩
        · rw [updS_ne e]
          exact h.s i hi
section
variable {w : World} {b : Nat} {A : List Pair} {S : Ss} {T : Tb} {m : Int}
theorem RealAt.turn {i : Nat} {k v v0 : ByteArray} {K : World → Prop} (h : Tab w b 84 T_kv_KV (sessR S) T (A.length : Int) m) (hg : TGood T (A.length : Int) m) (hp : (Lv T).Perm A) (hA : AOk A) (hi : i < 8) (hT : T i = some (some (k, v0))) (hk : PairOk (k, v))
    (hK : ∀ w', RealAt w' b (setA k v A) S → Ext [b] w w' → K w') : Sts (cellVs (some (some (k, v)))) (Addr.add ⟨b, 0, none⟩ ((i : Int).toNat * 8)) 0 w K := by
  refine h.st hi fun w' hs h' he => hK w' ?_ he
  have hperm := Lv_turn hA hp hi hT v
  have htm := tombs_upd T hi (some (some (k, v)))
  rw [hT] at htm
  simp only [tm, List.length_nil] at htm
  have hlen := hperm.length_eq
  have hl0 := hp.length_eq
  rw [setA_length] at hlen
  have hlen' : (Lv (upd T i (some (some (k, v))))).length = A.length := hlen
  refine ⟨_, m, by rw [setA_length]; exact h', ⟨hg.inv.turn hi hT hk rfl, ?_, ?_, ?_, ?_⟩, hperm⟩
  · rw [setA_length, hlen']
  · have := hg.tomb; omega
  · have := hg.le; omega
  · have := hg.lt; omega
theorem put_ok {c : CmdS} {i : Int} {R : Int → ByteArray → World → Prop} (h : Tab w b 84 T_kv_KV (sessR S) T (A.length : Int) m) (hg : TGood T (A.length : Int) m) (hp : (Lv T).Perm A) (hA : AOk A) (hl : A.length ≤ 4) (hc : CmdP c) (h1 : c.op = 1)
    (hi : (∃ j v, i = (j : Nat) ∧ j < 8 ∧ T j = some (some (c.key, v)) ∧ lookA A c.key = some v) ∨ (i = -1 ∧ ∀ x ∈ A, x.1 ≠ c.key))
    (hR : ∀ w', RealAt w' b (runA c A).2 S → Ext [b] w w' → R (runA c A).1.1 (runA c A).1.2 w') : kv_KV_put.Call (some ⟨b, 0, none⟩) i c.op c.cl c.seq c.key c.val c.old w R := by
  apply kv_KV_put.sound
  unfold kv_KV_put.B0
  have hpo : PairOk (c.key, c.val) := ⟨hc.2.1.1, hc.2.1.2.1, hc.2.1.2.2.1⟩
  refine New.mk fun a w1 ha hs1 ho1 he1 => New.mk fun t6 w2 ht6 hs2 ho2 he2 => ?_
  have hca : CmdAt w2 a c := he2.own ho1 (by simp)
  have hans : AnsB w2 t6 := ⟨_, _, ho2⟩
  have he := he1.trans he2
  have h2 := h.ext0 he
  have hlt := h.lt
  have hge := he1.size
  rcases hi with ⟨j, v, rfl, hj, hT, hlk⟩ | ⟨rfl, habs⟩
  · have hrun : runA c A = ((0, estr), setA c.key c.val A) := by unfold runA; rw [hlk]; simp only [h1, if_true]
    rw [hrun] at hR
    refine Bm.pos (decide_eq_true (by omega)) (hca.drew.l3 (hca.drew.l4 (Pn.mk (mkCell_ok hpo.2.1 hpo.2.2 fun w3 he3 => ⟨⟨by omega, by omega⟩, ?_⟩))))
    refine RealAt.turn (h2.drew.ext0 he3) hg hp hA hj hT hpo fun w4 h4 he4 => ?_
    refine ((hans.ext0 (Ext.drew _ _)).ext0 he3 |>.ext he4 (by simp; omega)).ret fun w5 he5 => hR w5 (h4.ext he5 (by simp; omega)) ?_
    exact up1 ((((he.trans (Ext.drew _ _)).trans he3).nil).trans he4) he5 (by omega)
  · have hlk := lookA_none habs
    refine Bm.neg (by decide) (Pn.mk (h2.ldL (Bm.ite (fun h4 => ?_) fun h4 => Pn.mk (hca.drew.l3 (hca.drew.l4 ?_)))))
    · have hrun : runA c A = ((6, estr), A) := by unfold runA; rw [hlk]; simp only [h1, if_true]; rw [if_pos (by omega)]
      rw [hrun] at hR
      exact hans.ret fun w5 he5 => hR w5 ⟨T, m, h2.ext he5 (by simp; omega), hg, hp⟩ (up1 he.nil he5 (by omega))
    · have hrun : runA c A = ((0, estr), insK kB (c.key, c.val) A) := by unfold runA; rw [hlk]; simp only [h1, if_true]; rw [if_neg (by omega)]
      rw [hrun] at hR
      have hl0 := hp.length_eq
      refine add_ok h2.drew hg hpo ((absent_iff hp).2 habs) (by omega) fun w3 T' m' hg' hp' h3 he3 => ?_
      refine ((hans.ext0 (Ext.drew _ _)).ext he3 (by simp; omega)).ret fun w5 he5 => hR w5 ⟨T', m', ?_, ?_, ?_⟩ (up1 (((he.trans (Ext.drew _ _)).nil).trans he3) he5 (by omega))
      · rw [insK_length]
        rw [show ((A.length + 1 : Nat) : Int) = (A.length : Int) + 1 by omega]
        exact h3.ext he5 (by simp; omega)
      · rw [insK_length]
        rw [show ((A.length + 1 : Nat) : Int) = (A.length : Int) + 1 by omega]
        exact hg'
      · exact (hp'.trans (hp.cons _)).trans (insK_perm _ A).symm
theorem run_ok {c : CmdS} {R : Int → ByteArray → World → Prop} (h : RealAt w b A S) (hk : KvOk A S) (hc : CmdP c)
    (hR : ∀ w', RealAt w' b (runA c A).2 S → Ext [b] w w' → R (runA c A).1.1 (runA c A).1.2 w') : kv_KV_run.Call (some ⟨b, 0, none⟩) c.op c.cl c.seq c.key c.val c.old w R := by
  apply kv_KV_run.sound
  unfold kv_KV_run.B0
  obtain ⟨T, m, h, hg, hp⟩ := h
  have hpo : PairOk (c.key, c.val) := ⟨hc.2.1.1, hc.2.1.2.1, hc.2.1.2.2.1⟩
  have hks : c.key.size ≤ 281474976710656 := by have := hc.2.1; omega
  refine New.mk fun a w1 ha hs1 ho1 he1 => New.mk fun t4 w2 ht4 hs2 ho2 he2 => Pn.mk ?_
  have hca : CmdAt w2 a c := he2.own ho1 (by simp)
  have hans : AnsB w2 t4 := ⟨_, _, ho2⟩
  have he := he1.trans he2
  have h2 := h.ext0 he
  have hlt := h.lt
  have hge := he1.size
  refine hca.drew.l3 (RealAt.find h2.drew hg hp hk.a hks fun w3 he3 => ?_)
  have hca3 := hca.drew.ext0 he3
  have hans3 := (hans.ext0 (Ext.drew _ _)).ext0 he3
  have h3 := h2.drew.ext0 he3
  have hee := (he.trans (Ext.drew _ _)).trans he3
  have hge3 : t4 < w3.heap.size := by obtain ⟨_, _, hx⟩ := hans3; exact hx.lt
  refine ⟨fun i v hi hT hlk => ?_, fun habs => ?_⟩
  · have hv3 : v.size ≤ 3 := (hg.inv.ok i hi _ hT).2.2
    refine hca3.l0 (Bm.mk (fun e1 => ?_) fun e1 => ?_)
    · have e1' : c.op = 1 := by simpa using e1
      refine hca3.all (put_ok h3 hg hp hk.a hk.le hc e1' (.inl ⟨i, v, rfl, hi, hT, hlk⟩) fun w4 h4 he4 => ?_)
      exact (hans3.ext he4 (by simp; omega)).ret fun w5 he5 => hR w5 (h4.ext he5 (by simp; omega)) (up1 (hee.nil.trans he4) he5 (by omega))
    have e1' : c.op ≠ 1 := by simpa using e1
    refine Bm.neg (decide_eq_false (by omega)) (Pn.mk ⟨⟨by omega, by omega⟩, h3.ld hi ?_⟩)
    rw [hT]
    refine valOf_ok (hg.inv.ok i hi _ hT) fun w4 he4 => ?_
    have hca4 := hca3.ext0 he4
    have hans4 := hans3.ext0 he4
    have h4 := h3.ext0 he4
    have hee4 := hee.trans he4
    refine hca4.l0 (Bm.mk (fun e2 => ?_) fun e2 => hca4.l0 (Bm.mk (fun e3 => Pn.mk ?_) fun e3 => hca4.l5 ?_))
    · have e2' : c.op = 2 := by simpa using e2
      have hrun : runA c A = ((0, v), A) := by unfold runA; rw [hlk]; simp [e2']
      rw [hrun] at hR
      exact hans4.ret fun w5 he5 => hR w5 ⟨T, m, h4.ext he5 (by simp; omega), hg, hp⟩ (up1 hee4.nil he5 (by omega))
    · have e3' : c.op = 3 := by simpa using e3
      have hrun : runA c A = ((0, v), delA c.key A) := by unfold runA; rw [hlk]; simp [e3']
      rw [hrun] at hR
      refine drop_ok h4 hg hi hT fun w5 hg5 h5 he5 => ?_
      have hdl := delA_length hk.a (hp.subset (mem_Lv.2 ⟨i, hi, hT⟩))
      have hdl' : ((delA c.key A).length : Int) = (A.length : Int) - 1 := by simp only at hdl; omega
      refine (hans4.ext he5 (by simp; omega)).ret fun w6 he6 => hR w6 ⟨_, m + 1, ?_, ?_, Lv_drop hk.a hp hi hT⟩ (up1 (hee4.nil.trans he5) he6 (by omega))
      · show Tab w6 b 84 T_kv_KV (sessR S) _ ((delA c.key A).length : Int) _
        rw [hdl']
        exact h5.ext he6 (by simp; omega)
      · show TGood _ ((delA c.key A).length : Int) _
        rw [hdl']
        exact hg5
    · have e2' : c.op ≠ 2 := by simpa using e2
      have e3' : c.op ≠ 3 := by simpa using e3
      rw [str_beq]
      by_cases ho : v = c.old
      · have hrun : runA c A = ((0, estr), setA c.key c.val A) := by unfold runA; rw [hlk]; simp [e1', e2', e3', ho]
        rw [hrun] at hR
        refine Bm.neg (by simp [ho]) (hca4.drew.l3 (hca4.drew.l4 (Pn.mk (mkCell_ok hpo.2.1 hpo.2.2 fun w5 he5 => ⟨⟨by omega, by omega⟩, ?_⟩))))
        refine RealAt.turn (h4.drew.ext0 he5) hg hp hk.a hi hT hpo fun w6 h6 he6 => ?_
        exact (((hans4.ext0 (Ext.drew _ _)).ext0 he5).ext he6 (by simp; omega)).ret fun w7 he7 => hR w7 (h6.ext he7 (by simp; omega)) (up1 ((((hee4.trans (Ext.drew _ _)).trans he5).nil).trans he6) he7 (by omega))
      · have hrun : runA c A = ((11, v), A) := by unfold runA; rw [hlk]; simp [e1', e2', e3', ho]
        rw [hrun] at hR
        exact Bm.pos (by simp [ho]) (hans4.ret fun w5 he5 => hR w5 ⟨T, m, h4.ext he5 (by simp; omega), hg, hp⟩ (up1 hee4.nil he5 (by omega)))
  · have hlk := lookA_none habs
    refine hca3.l0 (Bm.mk (fun e1 => ?_) fun e1 => ?_)
    · have e1' : c.op = 1 := by simpa using e1
      refine hca3.all (put_ok h3 hg hp hk.a hk.le hc e1' (.inr ⟨rfl, habs⟩) fun w4 h4 he4 => ?_)
      exact (hans3.ext he4 (by simp; omega)).ret fun w5 he5 => hR w5 (h4.ext he5 (by simp; omega)) (up1 (hee.nil.trans he4) he5 (by omega))
    · have e1' : c.op ≠ 1 := by simpa using e1
      have hrun : runA c A = ((2, estr), A) := by unfold runA; rw [hlk]; simp [e1']
      rw [hrun] at hR
      exact Bm.pos (by decide) (hans3.ret fun w5 he5 => hR w5 ⟨T, m, h3.ext he5 (by simp; omega), hg, hp⟩ (up1 hee.nil he5 (by omega)))
theorem realApply_ok {s : KvS} {data : ByteArray} {R : Int → ByteArray → World → Prop} (h : RealAt w b s.A s.S) (hk : KvOk s.A s.S) (hd : data.size ≤ 281474976710656)
    (hR : ∀ w', RealAt w' b (applyA data s).2.A (applyA data s).2.S → Ext [b] w w' → R (applyA data s).1.1 (applyA data s).1.2 w') : kv_KV_Apply.Call (some ⟨b, 0, none⟩) data w R := by
  apply kv_KV_Apply.sound
  unfold kv_KV_Apply.B0
  have hlt := h.lt
  refine New.mk fun t4 w1 ht4 hs1 ho1 he1 => decodeCmd_ok hd fun w2 he2 => ?_
  have hans : AnsB w2 t4 := ⟨_, _, he2.own ho1 (by simp)⟩
  have hee := he1.trans he2
  have hge := he1.size
  have hge2 := he2.size
  refine ⟨fun hn => NewSet.mk rfl rfl fun a w3 ha hs3 ho3 he3 => ?_, fun c hc => NewSet.mk rfl rfl fun a w3 ha hs3 ho3 he3 => ?_⟩
  · have hrun : applyA data s = ((9, estr), s) := by unfold applyA; rw [hn]
    rw [hrun] at hR
    exact Bm.pos rfl ((hans.ext0 he3).ret fun w4 he4 => hR w4 ((h.ext0 (hee.trans he3)).ext he4 (by simp; omega)) (up1 (hee.trans he3).nil he4 (by omega)))
  have hcp := decCmd_ok hc
  have hca : CmdAt w3 a c := ho3
  obtain ⟨i, hi⟩ : ∃ i : Nat, c.cl = i := ⟨c.cl.toNat, by have := hcp.1; omega⟩
  have hi3 : i < 3 := by have := hcp.1; omega
  have hin : c.cl.toNat = i := by omega
  have hap : applyA data s = if c.seq < (s.S i).1 then ((10, estr), s) else if c.seq = (s.S i).1 then ((s.S i).2, s) else ((runA c s.A).1, ⟨(runA c s.A).2, updS s.S i (c.seq, (runA c s.A).1)⟩) := by
    unfold applyA
    rw [hc]
    show (if c.seq < (s.S c.cl.toNat).1 then _ else _) = _
    rw [hin]
  have hh := h
  obtain ⟨T, m, h, hg, hp⟩ := h
  have h3 := h.ext0 (hee.trans he3)
  have hans3 := hans.ext0 he3
  refine Bm.neg rfl (hca.drew.l1 (Pn.mk ⟨by have := hcp.1; omega, ?_⟩))
  rw [hi]
  refine h3.drew.ldSess hi3 (New.mk fun q w4 hq hs4 ho4 he4 => ?_)
  have h4 := h3.drew.ext0 he4
  have hcell : ∀ j, j < 6 → w4.cell? ⟨b, 66 + i * 6 + j, none⟩ = some (sv (s.S i) j) := fun j hj => h4.1.cell (by rw [fnArr_get _ (by omega), tab_sess (rest := sessR s.S) hi3 hj])
  rw [add_mk, add_mk, Int.toNat_natCast, Nat.zero_add]
  simp only [add_mk]
  have hca4 := hca.drew.ext0 he4
  have hans4 := (hans3.ext0 (Ext.drew _ _)).ext0 he4
  refine ⟨hcell 0 (by omega), hcell 1 (by omega), hcell 2 (by omega), hcell 3 (by omega), hcell 4 (by omega), hcell 5 (by omega), by rw [Own.cell hca4 (v := .int .i64 c.cl) rfl, hi], ?_⟩
  refine Sts.full (vs := sessVs (s.S i)) ho4 rfl rfl fun w5 hs5 ho5 he5 => ?_
  have hge3 := he3.size
  have hca5 := hca4.ext he5 (by have := Own.lt hca.drew; simp; omega)
  have hans5 := hans4.ext he5 (by simp; have : w3.drew.heap.size = w3.heap.size := rfl; omega)
  have h5 := h4.ext he5 (by have := h3.drew.lt; simp; omega)
  have hee5 : Ext [] w w5 := up1 (((hee.trans he3).trans (Ext.drew _ _)).trans he4) he5 (by have : w3.drew.heap.size = w3.heap.size := rfl; omega)
  have hr5 : RealAt w5 b s.A s.S := ⟨T, m, h5, hg, hp⟩
  refine hca5.l2 (LdI.mk ho5 rfl (Bm.ite (fun hlt1 => ?_) fun hge1 => ?_))
  · have hlt1 : c.seq < (s.S i).1 := hlt1
    rw [hap, if_pos hlt1] at hR
    exact hans5.ret fun w6 he6 => hR w6 (hr5.ext he6 (by simp; omega)) (up1 hee5.nil he6 (by omega))
  · have hge1 : ¬ c.seq < (s.S i).1 := hge1
    refine hca5.l2 (LdI.mk ho5 rfl (Bm.mk (fun heq => ?_) fun hne => ?_))
    · have heq' : c.seq = (s.S i).1 := by simpa [si] using heq
      rw [hap, if_neg hge1, if_pos heq'] at hR
      refine ld6b ho5 (ansOf_ok (hk.s i hi3).2.2.2.2 fun w6 he6 => (hans5.ext0 he6).ret fun w7 he7 => hR w7 ((hr5.ext0 he6).ext he7 (by simp; omega)) (up1 (hee5.trans he6).nil he7 (by omega)))
    · have hne' : c.seq ≠ (s.S i).1 := by simpa [si] using hne
      rw [hap, if_neg hge1, if_neg hne'] at hR
      refine hca5.all (run_ok hr5 hk hcp fun w6 h6 he6 => NewSet.mk rfl rfl fun u w7 hu hs7 ho7 he7 => ?_)
      have hca7 := (hca5.ext he6 (by have := Own.lt hca5; simp; omega)).ext0 he7
      refine hca7.drew.l1 (hca7.drew.l2 (LdI.mk ho7.drew rfl (LdS.mk ho7.drew rfl (Pn.mk ?_))))
      have hr := runA_ok hcp hk.a hk.le
      refine mkSession_ok (s := (c.seq, (runA c s.A).1)) hr.2.2.2.2 fun w8 he8 => ?_
      have hca8 := hca7.drew.ext0 he8
      refine ⟨Own.cell hca8 (v := .int .i64 c.cl) rfl, ⟨by have := hcp.1; omega, ?_⟩⟩
      rw [hi]
      obtain ⟨T6, m6, h6, hg6, hp6⟩ := h6
      refine ((h6.ext0 he7).drew.ext0 he8).stSess (s := (c.seq, (runA c s.A).1)) hi3 fun w9 hs9 h9 he9 => ?_
      have ho9 := he9.own (he8.own ho7.drew (by simp)) (by have := h6.lt; simp; omega)
      refine LdI.mk ho9 rfl (LdS.mk ho9 rfl ?_)
      have hans9 := ((((hans5.ext he6 (by simp; omega)).ext0 he7).ext0 (Ext.drew _ _)).ext0 he8).ext he9 (by simp; omega)
      exact hans9.ret fun w10 he10 => hR w10 ⟨T6, m6, h9.ext he10 (by simp; omega), hg6, hp6⟩ (up1 ((hee5.nil.trans he6).trans ((((he7.trans (Ext.drew _ _)).trans he8).nil).trans he9)) he10 (by omega))
end
end Go.Proofs.Qxb6500430aGreat.Kv
