/-
  conn: the plain state machine of one connection block.
-/
import Derived.Test.Qxb6500424aGreatBfD
set_option linter.unusedVariables false
set_option linter.unusedSimpArgs false
open Go.Vc
namespace Go.Proofs.Qxb6500424aGreat

structure Hd where
  sp : Int
  dp : Int
  sq : Int
  ak : Int
  fl : Int
  wn : Int
abbrev SegV := Hd × List Int
abbrev fAnd (f k : Int) : Int := IntKind.i64.wrap ((BitVec.ofInt IntKind.i64.bits f &&& BitVec.ofInt IntKind.i64.bits k).toNat : Int)
structure CS where
  st : Int
  why : Int
  wc : Bool
  fs : Bool
  fa : Bool
  pf : Bool
  iss : Int
  pw : Int
  tm : Int
  rt : Int
  cr : Int
  qt : Int
  S : SbS
  B : RbS
def sndUna (C : CS) : Int := if C.fa = true then sqAdd C.S.una 1 else C.S.una
def flying (C : CS) : Int := if C.st = 1 ∨ C.st = 2 then 1 else if C.fs = true ∧ C.fa = false then (C.S.sent : Int) + 1 else (C.S.sent : Int)
def sndNxt (C : CS) : Int := sqAdd (sndUna C) (flying C)
def rcvNxt (C : CS) : Int := if C.pf = true then sqAdd C.B.nxt 1 else C.B.nxt
def mkF (C : CS) (fl seq : Int) (D : List Int) : SegV := (⟨0, 0, seq, if (fAnd fl 2 != 0) = true then rcvNxt C else 0, fl, 16 - (C.B.A.length : Int)⟩, D)
def ackF (C : CS) : SegV := mkF C 2 (sndNxt C) []
def rstF (seq : Int) : SegV := (⟨0, 0, sqAdd seq 0, 0, 8, 0⟩, [])
def armF (C : CS) : CS := if C.tm = 0 then { C with tm := 2 * 2 ^ C.rt.toNat } else C
def againF (C : CS) : SegV := if C.st = 1 then mkF C 1 C.iss [] else if C.st = 2 then mkF C 3 C.iss [] else if 0 < leastN 12 C.S.sent then mkF C 2 C.S.una (C.S.D.take (leastN 12 C.S.sent)) else mkF C 6 C.S.una []
def room (C : CS) : Int := if C.pw = 0 then 1 else C.pw
def nOf (C : CS) : Int := min (min (min ((C.S.D.length : Int) - (C.S.sent : Int)) (room C - (C.S.sent : Int))) 12) C.cr
def pump1 (C : CS) : CS × List SegV := if 0 < nOf C then (armF { C with S := nextA (nOf C) C.S, cr := C.cr - nOf C }, [mkF C 2 (nxtS C.S) ((C.S.D.drop C.S.sent).take (nOf C).toNat)]) else (C, [])
def pump2 (C : CS) : CS × List SegV := if C.wc = true ∧ C.fs = false ∧ 0 < C.cr ∧ C.S.D.length = C.S.sent then (armF { C with fs := true, cr := C.cr - 1 }, [mkF C 6 (nxtS C.S) []]) else (C, [])
def pumpF (C : CS) : CS × List SegV := if C.st = 3 then ((pump2 (pump1 C).1).1, (pump1 C).2 ++ (pump2 (pump1 C).1).2) else (C, [])
def C0 : CS := ⟨0, 0, false, false, false, false, 0, 0, 0, 0, 0, 0, resetS 0, resetR 0⟩
def failF (why : Int) : CS := { C0 with st := 4, why := why, qt := 10 }
def dec1 (q : Int) : Int := if 0 < q then q - 1 else q
def tickF (C : CS) : CS × List SegV :=
  if C.st = 0 then (C, []) else
  if C.st = 4 then (if dec1 C.qt = 0 ∧ C.B.A.length = 0 then C0 else { C with qt := dec1 C.qt }, []) else
  if 0 < C.tm then
    if C.tm - 1 = 0 then
      if C.rt = 3 then (failF 19, []) else
      ((pumpF (armF { C with cr := 12, tm := C.tm - 1, rt := C.rt + 1 })).1, againF (armF { C with cr := 12, tm := C.tm - 1, rt := C.rt + 1 }) :: (pumpF (armF { C with cr := 12, tm := C.tm - 1, rt := C.rt + 1 })).2)
    else pumpF { C with cr := 12, tm := C.tm - 1 }
  else pumpF { C with cr := 12 }
def endedF (C : CS) : Int := if C.why ≠ 0 then C.why else 15
structure OutC where
  C : CS
  G : List SegV
  e : Int
def sendF (P : List Int) (C : CS) : Int × OutC :=
  if C.st = 0 then (0, ⟨C, [], 13⟩) else if C.st = 1 ∨ C.st = 2 then (0, ⟨C, [], 14⟩) else if C.st = 4 then (0, ⟨C, [], endedF C⟩) else
  if C.wc = true then (0, ⟨C, [], 15⟩) else if 0 < P.length ∧ C.S.D.length = 16 then (0, ⟨C, [], 14⟩) else
  (((putA P C.S).1 : Int), ⟨(pumpF { C with S := (putA P C.S).2 }).1, (pumpF { C with S := (putA P C.S).2 }).2, 0⟩)
def recvF (mx : Int) (C : CS) : List Int × OutC :=
  if C.st = 0 then ([], ⟨C, [], 13⟩) else if mx ≤ 0 then ([], ⟨C, [], 24⟩) else
  if C.B.A.length = 0 then (if C.pf = true then ([], ⟨C, [], 16⟩) else if C.st = 4 then ([], ⟨C, [], C.why⟩) else ([], ⟨C, [], 14⟩)) else
  (C.B.A.take (leastN mx C.B.A.length), ⟨{ C with B := readA mx C.B }, if C.B.A.length = 16 ∧ C.st = 3 then [ackF { C with B := readA mx C.B }] else [], 0⟩)
def closeF (C : CS) : OutC :=
  if C.st = 0 then ⟨C, [], 13⟩ else if C.st = 4 then ⟨C, [], endedF C⟩ else if C.st = 1 then ⟨failF 20, [], 0⟩ else if C.wc = true then ⟨C, [], 15⟩ else
  ⟨(pumpF { C with wc := true }).1, (pumpF { C with wc := true }).2, 0⟩
def abortF (C : CS) : OutC :=
  if C.st = 0 then ⟨C, [], 13⟩ else if C.st = 4 then (if C.why = 0 then ⟨{ failF 20 with qt := C.qt }, [], 0⟩ else ⟨C, [], 0⟩) else if C.st = 1 then ⟨failF 20, [], 0⟩ else
  ⟨failF 20, [rstF (sndNxt C)], 0⟩
def beginF (st iss : Int) : CS := { C0 with st := st, iss := sqAdd iss 0, S := resetS (sqAdd iss 0), cr := 11, tm := 2 }
def openAF (iss : Int) (C : CS) : OutC := if C.st ≠ 0 then ⟨C, [], 13⟩ else ⟨beginF 1 iss, [againF (beginF 1 iss)], 0⟩
def windowF (x : Int) : Int := if x < 0 then 0 else if 255 < x then 255 else x
def openPF (iss : Int) (h : Hd) (C : CS) : OutC :=
  if C.st ≠ 0 then ⟨C, [], 13⟩ else if fAnd h.fl 15 ≠ 1 then ⟨C, [], 24⟩ else
  ⟨{ beginF 2 iss with B := resetR (sqAdd h.sq 1), pw := windowF h.wn }, [againF { beginF 2 iss with B := resetR (sqAdd h.sq 1), pw := windowF h.wn }], 0⟩
def openedF (C : CS) : CS := { C with S := resetS (sqAdd C.iss 1), st := 3, tm := 0, rt := 0 }
def quietF (f : Int) (D : List Int) (C : CS) : CS × List SegV := if C.why = 0 ∧ fAnd f 8 = 0 ∧ (fAnd f 4 ≠ 0 ∨ 0 < D.length) then (C, [ackF C]) else (C, [])
def synSentF (sq ak f wn : Int) (C : CS) : CS × List SegV :=
  if fAnd f 2 ≠ 0 ∧ ak ≠ sqAdd C.iss 1 then (if fAnd f 8 ≠ 0 then (C, []) else (C, [rstF ak])) else
  if fAnd f 8 ≠ 0 then (if fAnd f 2 ≠ 0 then (failF 18, []) else (C, [])) else
  if fAnd f 1 = 0 ∨ fAnd f 2 = 0 then (C, []) else
  ({ openedF C with B := resetR (sqAdd sq 1), pw := windowF wn }, [ackF { openedF C with B := resetR (sqAdd sq 1), pw := windowF wn }])
def ackD (ak : Int) (C : CS) : Int := sqDiff ak (sndUna C)
def ackK (ak : Int) (C : CS) : Int := if (C.S.sent : Int) < ackD ak C then (C.S.sent : Int) else ackD ak C
def ackC (ak wn : Int) (C : CS) : CS := { C with pw := windowF wn, rt := 0, fa := if (C.S.sent : Int) < ackD ak C then true else C.fa, S := (ackA (sqAdd C.S.una (ackK ak C)) C.S).2, tm := 0 }
def ackedF (ak wn : Int) (C : CS) : Bool × CS :=
  if flying C < ackD ak C then (false, C) else if ackD ak C < 0 then (true, C) else if ackD ak C = 0 then (true, { C with pw := windowF wn, rt := 0 }) else
  (true, if 0 < flying (ackC ak wn C) then armF (ackC ak wn C) else ackC ak wn C)
def takeF (sq f : Int) (D : List Int) (C : CS) : CS :=
  if C.pf = true then C else if fAnd f 4 = 0 ∨ 16 < D.length then { C with B := (insA sq D C.B).2 } else
  if sqAdd sq (D.length : Int) = (insA sq D C.B).2.nxt then { C with B := (insA sq D C.B).2, pf := true } else { C with B := (insA sq D C.B).2 }
def endF (C : CS) : CS := if C.fa = true ∧ C.pf = true then { C with st := 4, qt := 10, tm := 0, rt := 0, cr := 0, pw := 0 } else C
def goonF (sq f : Int) (D : List Int) (C : CS) : CS × List SegV :=
  if 0 < D.length ∨ fAnd f 4 ≠ 0 then (endF (pumpF (takeF sq f D C)).1, ackF (takeF sq f D C) :: (pumpF (takeF sq f D C)).2) else (endF (pumpF C).1, (pumpF C).2)
def openF (ak wn sq f : Int) (D : List Int) (C : CS) : CS × List SegV := if (ackedF ak wn C).1 = true then goonF sq f D (ackedF ak wn C).2 else (C, [ackF C])
def syncF (sq ak f wn : Int) (D : List Int) (C : CS) : CS × List SegV :=
  if fAnd f 8 ≠ 0 then (if 0 ≤ sqDiff sq (rcvNxt C) ∧ sqDiff sq (rcvNxt C) ≤ 17 then (failF 17, []) else (C, [])) else
  if fAnd f 1 ≠ 0 then (if C.st = 2 then (C, [againF C]) else (C, [ackF C])) else
  if fAnd f 2 = 0 then (C, []) else
  if C.st = 2 then (if ak ≠ sqAdd C.iss 1 then (C, [rstF ak]) else openF ak wn sq f D (openedF C)) else openF ak wn sq f D C
def inputF (h : Hd) (D : List Int) (C : CS) : CS × List SegV :=
  if C.st = 4 then quietF (fAnd h.fl 15) D C else if C.st = 1 then synSentF (sqAdd h.sq 0) (sqAdd h.ak 0) (fAnd h.fl 15) h.wn C else
  if C.st = 2 ∨ C.st = 3 then syncF (sqAdd h.sq 0) (sqAdd h.ak 0) (fAnd h.fl 15) h.wn D C else (C, [])
/-! ### what always holds -/
structure CsW (C : CS) : Prop where
  S : SbOk C.S
  B : RbOk C.B
  st : 0 ≤ C.st ∧ C.st ≤ 4
  iss : 0 ≤ C.iss ∧ C.iss < 256
  pw : 0 ≤ C.pw ∧ C.pw ≤ 255
  tm : 0 ≤ C.tm ∧ C.tm ≤ 16
  rt : 0 ≤ C.rt ∧ C.rt ≤ 3
  cr : 0 ≤ C.cr ∧ C.cr ≤ 12
  qt : 0 ≤ C.qt ∧ C.qt ≤ 10
  free : C.st = 0 → C = C0
  bad : C.st = 4 → C.why ≠ 0 → C = { C0 with st := 4, why := C.why, qt := C.qt }
  good : C.st = 4 → C.why = 0 → C.wc = true ∧ C.fs = true ∧ C.fa = true ∧ C.pf = true ∧ C.S.D = [] ∧ C.tm = 0 ∧ C.rt = 0 ∧ C.cr = 0 ∧ C.pw = 0
  live : C.st = 1 ∨ C.st = 2 ∨ C.st = 3 → C.why = 0 ∧ C.qt = 0 ∧ (0 < flying C ↔ 0 < C.tm)
  opening : C.st = 1 ∨ C.st = 2 → C.S.D = [] ∧ C.S.una = C.iss ∧ C.fs = false ∧ C.fa = false ∧ C.pf = false
  openn : C.st = 3 → (C.fa = true → C.fs = true) ∧ (C.fs = true → C.wc = true) ∧ (C.fs = true → C.S.D.length = C.S.sent) ∧ (C.fa = true → C.S.D = [])
structure CsOk (C : CS) : Prop extends CsW C where
  nofp : C.st = 3 → ¬ (C.fa = true ∧ C.pf = true)
  syn : C.st = 1 → C.B = resetR 0
theorem C0_ok : CsOk C0 := ⟨⟨resetS_ok 0, resetR_ok 0, by decide, by decide, by decide, by decide, by decide, by decide, by decide, fun _ => rfl, fun h => (by cases h), fun h => (by cases h), fun h => (by rcases h with h | h | h <;> cases h), fun h => (by rcases h with h | h <;> cases h), fun h => (by cases h)⟩, fun h => (by cases h), fun h => (by cases h)⟩
theorem failQ_ok {why q : Int} (hw : why ≠ 0) (hq : 0 ≤ q ∧ q ≤ 10) : CsOk { failF why with qt := q } :=
  ⟨⟨resetS_ok 0, resetR_ok 0, by simp [failF], C0_ok.iss, C0_ok.pw, C0_ok.tm, C0_ok.rt, C0_ok.cr, hq, fun h => (by cases h), fun _ _ => rfl, fun _ h => absurd h hw, fun h => (by rcases h with h | h | h <;> cases h), fun h => (by rcases h with h | h <;> cases h), fun h => (by cases h)⟩, fun h => (by cases h), fun h => (by cases h)⟩
theorem failF_ok {why : Int} (hw : why ≠ 0) : CsOk (failF why) := failQ_ok (q := 10) hw (by decide)
section
variable {C : CS}
theorem CsW.sent (h : CsW C) : C.S.sent ≤ C.S.D.length ∧ C.S.D.length ≤ 16 := ⟨h.S.sent, h.S.len⟩
theorem flying_nonneg (C : CS) : 0 ≤ flying C := by
  unfold flying
  split
  · omega
  · split <;> omega
theorem arm_tm (h : 0 ≤ C.rt ∧ C.rt ≤ 3) : 2 ≤ (2 : Int) * 2 ^ C.rt.toNat ∧ (2 : Int) * 2 ^ C.rt.toNat ≤ 16 := by
  have : C.rt = 0 ∨ C.rt = 1 ∨ C.rt = 2 ∨ C.rt = 3 := by omega
  rcases this with e | e | e | e <;> rw [e] <;> decide
theorem armF_eq (C : CS) : armF C = { C with tm := if C.tm = 0 then 2 * 2 ^ C.rt.toNat else C.tm } := by
  unfold armF
  split
  · rfl
  · rfl
theorem arm_pos (h : 0 ≤ C.rt ∧ C.rt ≤ 3) (ht : 0 ≤ C.tm ∧ C.tm ≤ 16) : 0 < (armF C).tm ∧ (armF C).tm ≤ 16 := by
  have := arm_tm h
  rw [armF_eq]
  show 0 < (if C.tm = 0 then _ else _) ∧ (if C.tm = 0 then _ else _) ≤ (16 : Int)
  split <;> omega
/-- An armed block in StOpen. -/
theorem armed_w (hS : SbOk C.S) (hB : RbOk C.B) (h3 : C.st = 3) (hi : 0 ≤ C.iss ∧ C.iss < 256) (hp : 0 ≤ C.pw ∧ C.pw ≤ 255) (ht : 0 ≤ C.tm ∧ C.tm ≤ 16) (hr : 0 ≤ C.rt ∧ C.rt ≤ 3) (hc : 0 ≤ C.cr ∧ C.cr ≤ 12) (hw : C.why = 0) (hq : C.qt = 0) (hf : 0 < flying C) (ho : (C.fa = true → C.fs = true) ∧ (C.fs = true → C.wc = true) ∧ (C.fs = true → C.S.D.length = C.S.sent) ∧ (C.fa = true → C.S.D = [])) : CsW (armF C) := by
  have ha := arm_pos hr ht
  rw [armF_eq] at ha ⊢
  refine ⟨hS, hB, by show 0 ≤ C.st ∧ C.st ≤ 4; omega, hi, hp, ⟨by omega, ha.2⟩, hr, hc, by show 0 ≤ C.qt ∧ C.qt ≤ 10; omega, fun h => ?_, fun h => ?_, fun h => ?_, fun _ => ⟨hw, hq, ?_⟩, fun h => ?_, fun _ => ho⟩
  · have h' : C.st = 0 := h; omega
  · have h' : C.st = 4 := h; omega
  · have h' : C.st = 4 := h; omega
  · exact ⟨fun _ => ha.1, fun _ => hf⟩
  · have h' : C.st = 1 ∨ C.st = 2 := h; omega
theorem fly3 (h3 : C.st = 3) : flying C = if C.fs = true ∧ C.fa = false then (C.S.sent : Int) + 1 else (C.S.sent : Int) := by
  unfold flying
  rw [if_neg (by omega)]
theorem nOf_le (C : CS) : nOf C ≤ (C.S.D.length : Int) - (C.S.sent : Int) ∧ nOf C ≤ room C - (C.S.sent : Int) ∧ nOf C ≤ 12 ∧ nOf C ≤ C.cr := by unfold nOf; omega
theorem least_n (h : 0 < nOf C) : leastN (nOf C) (C.S.D.length - C.S.sent) = (nOf C).toNat := by
  have := nOf_le C
  unfold leastN
  omega
theorem pump1_w (h : CsW C) (h3 : C.st = 3) : CsW (pump1 C).1 ∧ (pump1 C).1.st = 3 ∧ (pump1 C).1.pf = C.pf ∧ (pump1 C).1.fa = C.fa := by
  unfold pump1
  by_cases hn : 0 < nOf C
  · rw [if_pos hn]
    have hle := nOf_le C
    have hln := least_n hn
    obtain ⟨o1, o2, o3, o4⟩ := h.openn h3
    obtain ⟨l1, l2, l3⟩ := h.live (by omega)
    have hfs : C.fs = false := by
      cases e : C.fs with
      | false => rfl
      | true => have := o3 e; omega
    have hfa : C.fa = false := by
      cases e : C.fa with
      | false => rfl
      | true => have := o1 e; rw [hfs] at this; cases this
    have hc := h.cr
    have hs := h.sent
    refine ⟨armed_w (nextA_ok h.S _) h.B h3 h.iss h.pw h.tm h.rt (by show 0 ≤ C.cr - nOf C ∧ C.cr - nOf C ≤ 12; omega) l1 l2 ?_ ⟨fun e => ?_, fun e => ?_, fun e => ?_, fun e => ?_⟩, ?_, ?_, ?_⟩
    · rw [fly3 (C := { C with S := nextA (nOf C) C.S, cr := C.cr - nOf C }) h3]
      have e1 : ¬ (C.fs = true ∧ C.fa = false) := fun e => by rw [hfs] at e; cases e.1
      show 0 < if C.fs = true ∧ C.fa = false then _ else (((nextA (nOf C) C.S).sent : Nat) : Int)
      rw [if_neg e1]
      show 0 < ((C.S.sent + leastN (nOf C) (C.S.D.length - C.S.sent) : Nat) : Int)
      omega
    · have : C.fa = true := e; rw [hfa] at this; cases this
    · have : C.fs = true := e; rw [hfs] at this; cases this
    · have : C.fs = true := e; rw [hfs] at this; cases this
    · have : C.fa = true := e; rw [hfa] at this; cases this
    · rw [armF_eq]; exact h3
    · rw [armF_eq]
    · rw [armF_eq]
  · rw [if_neg hn]
    exact ⟨h, h3, rfl, rfl⟩
theorem pump2_w (h : CsW C) (h3 : C.st = 3) : CsW (pump2 C).1 ∧ (pump2 C).1.st = 3 ∧ (pump2 C).1.pf = C.pf ∧ (pump2 C).1.fa = C.fa := by
  unfold pump2
  by_cases hn : C.wc = true ∧ C.fs = false ∧ 0 < C.cr ∧ C.S.D.length = C.S.sent
  · rw [if_pos hn]
    obtain ⟨n1, n2, n3, n4⟩ := hn
    obtain ⟨o1, o2, o3, o4⟩ := h.openn h3
    obtain ⟨l1, l2, l3⟩ := h.live (by omega)
    have hfa : C.fa = false := by
      cases e : C.fa with
      | false => rfl
      | true => have := o1 e; rw [n2] at this; cases this
    have hc := h.cr
    refine ⟨armed_w h.S h.B h3 h.iss h.pw h.tm h.rt (by show 0 ≤ C.cr - 1 ∧ C.cr - 1 ≤ 12; omega) l1 l2 ?_ ⟨fun _ => rfl, fun _ => n1, fun _ => n4, fun e => ?_⟩, ?_, ?_, ?_⟩
    · rw [fly3 (C := { C with fs := true, cr := C.cr - 1 }) h3]
      show 0 < if (true = true ∧ C.fa = false) then (C.S.sent : Int) + 1 else (C.S.sent : Int)
      rw [if_pos ⟨rfl, hfa⟩]
      omega
    · have : C.fa = true := e; rw [hfa] at this; cases this
    · rw [armF_eq]; exact h3
    · rw [armF_eq]
    · rw [armF_eq]
  · rw [if_neg hn]
    exact ⟨h, h3, rfl, rfl⟩
theorem pumpF_w (h : CsW C) : CsW (pumpF C).1 ∧ (pumpF C).1.st = C.st ∧ (pumpF C).1.pf = C.pf ∧ (pumpF C).1.fa = C.fa := by
  unfold pumpF
  by_cases h3 : C.st = 3
  · rw [if_pos h3]
    obtain ⟨a1, a2, a3, a4⟩ := pump1_w h h3
    obtain ⟨b1, b2, b3, b4⟩ := pump2_w a1 a2
    exact ⟨b1, by rw [h3]; exact b2, by rw [b3, a3], by rw [b4, a4]⟩
  · rw [if_neg h3]
    exact ⟨h, rfl, rfl, rfl⟩
theorem pumpF_ok (h : CsOk C) : CsOk (pumpF C).1 := by
  obtain ⟨a, b, c, d⟩ := pumpF_w h.toCsW
  refine ⟨a, fun h3 => by rw [c, d]; exact h.nofp (by omega), fun h1 => ?_⟩
  have e1 : C.st = 1 := by rw [← b]; exact h1
  have e : pumpF C = (C, []) := by unfold pumpF; rw [if_neg (by omega)]
  rw [e]
  exact h.syn e1
/-- The second round of the pump sends nothing. -/
theorem pump_twice (h : CsW C) (hn : 0 < nOf C) : nOf (pump1 C).1 ≤ 0 := by
  unfold pump1
  rw [if_pos hn]
  have hle := nOf_le C
  have hln := least_n hn
  have hc := h.cr
  have hs := h.sent
  rw [armF_eq]
  show nOf { C with S := nextA (nOf C) C.S, cr := C.cr - nOf C, tm := _ } ≤ 0
  have e1 : ((nextA (nOf C) C.S).sent : Int) = (C.S.sent : Int) + nOf C := by
    show ((C.S.sent + leastN (nOf C) (C.S.D.length - C.S.sent) : Nat) : Int) = _
    omega
  have : nOf C = (C.S.D.length : Int) - (C.S.sent : Int) ∨ nOf C = room C - (C.S.sent : Int) ∨ nOf C = 12 ∨ nOf C = C.cr := by unfold nOf; omega
  unfold nOf
  have e2 : room { C with S := nextA (nOf C) C.S, cr := C.cr - nOf C, tm := if C.tm = 0 then 2 * 2 ^ C.rt.toNat else C.tm } = room C := rfl
  show min (min (min ((C.S.D.length : Int) - ((nextA (nOf C) C.S).sent : Int)) (room C - ((nextA (nOf C) C.S).sent : Int))) 12) (C.cr - nOf C) ≤ 0
  rw [e1]
  omega
end
end Go.Proofs.Qxb6500424aGreat
