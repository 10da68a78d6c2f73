/-
  sync: the plain core.
-/
import Derived.Test.Qxb6500430aGreatRlG
import Derived.Test.Qxb6500430aGreatElectD
set_option linter.unusedVariables false
set_option linter.unusedSimpArgs false
open Go.Vc
namespace Go.Proofs.Qxb6500430aGreat

abbrev EntV := Int × ByteArray
structure MsgV where
  kind : Int
  fr : Int
  to : Int
  term : Int
  idx : Int
  lt : Int
  cm : Int
  ok : Bool
  ents : List EntV
  data : ByteArray
structure YS where
  L : LogS
  e : El.ES
  cm : Int
  nx : Nat → Int
  mt : Nat → Int
def YS.id (Y : YS) : Int := Y.e.id
def YS.lastT (Y : YS) : Int := (termL Y.L Y.L.last).1
structure YsOk (Y : YS) : Prop where
  L : LogOk Y.L
  e : Y.e.Wf
  term : Y.e.term = Y.L.term
  vote : Y.e.vote = Y.L.vote
  lo : Y.L.base ≤ Y.cm
  hi : Y.cm ≤ Y.L.last
  book : Y.e.role = 2 → ∀ p : Nat, p < 3 → (p : Int) ≠ Y.e.id → 0 ≤ Y.mt p ∧ Y.mt p < Y.nx p ∧ Y.nx p ≤ Y.L.last + 1
/-! ### the messages -/
def sendF (p : Nat) (Y : YS) : MsgV :=
  if Y.nx p ≤ Y.L.base then ⟨5, Y.e.id, p, Y.e.term, Y.L.base, Y.L.bterm, 0, false, [], Y.L.snap⟩
  else ⟨3, Y.e.id, p, Y.e.term, Y.nx p - 1, (termL Y.L (Y.nx p - 1)).1, Y.cm, false, (List.range (min 2 (Y.L.last - Y.nx p + 1).toNat)).map (fun k : Nat => (atL Y.L (Y.nx p + (k : Int))).1), estr⟩
def perPeer (Y : YS) (f : Nat → MsgV) : Nat → List MsgV
  | 0 => []
  | n + 1 => perPeer Y f n ++ (if (n : Int) = Y.e.id then [] else [f n])
def sendAllF (Y : YS) : List MsgV := perPeer Y (fun p => sendF p Y) 3
def askM (Y : YS) (p : Nat) : MsgV := ⟨1, Y.e.id, p, Y.e.term, Y.L.last, Y.lastT, 0, false, [], estr⟩
def askAllF (Y : YS) : List MsgV := perPeer Y (askM Y) 3
def replyF (k p : Int) (ok : Bool) (i : Int) (Y : YS) : MsgV := ⟨k, Y.e.id, p, Y.e.term, i, 0, 0, ok, [], estr⟩
/-! ### the steps -/
def setL (Y : YS) (S : List LogS) : YS := { Y with L := finL Y.L S }
def persS (Y : YS) : List LogS := if Y.e.term ≠ Y.L.term ∨ Y.e.vote ≠ Y.L.vote then (setTermS Y.e.term Y.e.vote Y.L).2 else []
def persF (Y : YS) : YS := setL Y (persS Y)
structure Evt where
  Y : YS
  S : List LogS
  G : List MsgV
def tickY (Y : YS) : Evt :=
  let Y1 : YS := { Y with e := (El.tickF Y.e).2 }
  ⟨persF Y1, persS Y1, (if (El.tickF Y.e).1 = 2 then sendAllF (persF Y1) else []) ++ (if (El.tickF Y.e).1 = 1 then askAllF (persF Y1) else [])⟩
def proposeY (d : ByteArray) (Y : YS) : (Int × Int) × Evt :=
  if Y.e.role ≠ 2 then ((0, 8), ⟨Y, [], []⟩) else if 24 < d.size then ((0, 5), ⟨Y, [], []⟩)
  else if (appendS Y.e.term d Y.L).1 ≠ 0 then ((0, 6), ⟨Y, [], []⟩)
  else (((setL Y (appendS Y.e.term d Y.L).2).L.last, 0), ⟨setL Y (appendS Y.e.term d Y.L).2, (appendS Y.e.term d Y.L).2, []⟩)
def compactY (u : Int) (sn : ByteArray) (Y : YS) : Int × Evt :=
  if Y.cm < u then (1, ⟨Y, [], []⟩) else ((compactS u sn Y.L).1, ⟨setL Y (compactS u sn Y.L).2, (compactS u sn Y.L).2, []⟩)
/-- The highest index in cm+1 .. cm+k whose entry is of the term; or cm. -/
def advN (L : LogS) (tm cm : Int) : Nat → Int
  | 0 => cm
  | k + 1 => if (termL L (cm + ((k : Int) + 1))).1 = tm then cm + ((k : Int) + 1) else advN L tm cm k
def peerMax (Y : YS) : Int := if Y.e.id = 0 then max (Y.mt 1) (Y.mt 2) else if Y.e.id = 1 then max (Y.mt 0) (Y.mt 2) else max (Y.mt 0) (Y.mt 1)
def advF (Y : YS) : YS := { Y with cm := advN Y.L Y.e.term Y.cm (peerMax Y - Y.cm).toNat }
def upN (f : Nat → Int) (p : Nat) (v : Int) : Nat → Int := fun q => if q = p then v else f q
def ackedF (p : Nat) (i : Int) (Y : YS) : YS × List MsgV :=
  if i ≤ Y.mt p ∨ Y.L.last < i then (Y, [])
  else
    let Y1 : YS := { Y with mt := upN Y.mt p i, nx := if Y.nx p ≤ i then upN Y.nx p (i + 1) else Y.nx }
    (advF Y1, if (advF Y1).nx p ≤ (advF Y1).L.last then [sendF p (advF Y1)] else [])
def refN (p : Nat) (i : Int) (Y : YS) : Int := if i + 1 ≤ Y.mt p then Y.mt p + 1 else i + 1
def refusedF (p : Nat) (i : Int) (Y : YS) : YS × List MsgV :=
  if refN p i Y < Y.nx p then ({ Y with nx := upN Y.nx p (refN p i Y) }, [sendF p { Y with nx := upN Y.nx p (refN p i Y) }]) else (Y, [])
def ackY (m : MsgV) (Y : YS) : Evt :=
  if El.seeB Y.e m.term = true then ⟨persF { Y with e := El.seeF Y.e m.term }, persS { Y with e := El.seeF Y.e m.term }, []⟩
  else if Y.e.role ≠ 2 ∨ m.term ≠ Y.e.term then ⟨Y, [], []⟩
  else if m.ok = true then ⟨(ackedF m.fr.toNat m.idx Y).1, [], (ackedF m.fr.toNat m.idx Y).2⟩
  else ⟨(refusedF m.fr.toNat m.idx Y).1, [], (refusedF m.fr.toNat m.idx Y).2⟩
def agreeN (L : LogS) : Int → List EntV → Nat
  | _, [] => 0
  | p, e :: es => if p + 1 ≤ L.last ∧ (termL L (p + 1)).1 = e.1 then agreeN L (p + 1) es + 1 else 0
def appsF (L : LogS) : List EntV → Nat × List LogS
  | [] => (0, [])
  | e :: es => if (appendS e.1 e.2 L).1 = 0 then ((appsF (finL L (appendS e.1 e.2 L).2) es).1 + 1, (appendS e.1 e.2 L).2 ++ (appsF (finL L (appendS e.1 e.2 L).2) es).2) else (0, [])
/-- Pass two: behind k entries that stand. -/
def repairF (i : Int) (es : List EntV) (Y : YS) : Int × List LogS :=
  if i ≤ Y.L.last then
    if i ≤ Y.cm then (i - 1, [])
    else (i - 1 + ((appsF (finL Y.L (truncS i Y.L).2) es).1 : Int), (truncS i Y.L).2 ++ (appsF (finL Y.L (truncS i Y.L).2) es).2)
  else (i - 1 + ((appsF Y.L es).1 : Int), (appsF Y.L es).2)
def acceptF (m : MsgV) (Y : YS) : (Bool × Int) × YS × List LogS :=
  if m.idx < Y.L.base then ((true, Y.L.base), Y, []) else if Y.L.last < m.idx then ((false, Y.L.last), Y, [])
  else if (termL Y.L m.idx).1 ≠ m.lt then ((false, if m.idx = 0 then 0 else m.idx - 1), Y, [])
  else
    let k := agreeN Y.L m.idx m.ents
    let r : Int × List LogS := if k < m.ents.length then repairF (m.idx + (k : Int) + 1) (m.ents.drop k) Y else (m.idx + (k : Int), [])
    ((true, r.1), { setL Y r.2 with cm := max Y.cm (min m.cm r.1) }, r.2)
def voteAskY (m : MsgV) (Y : YS) : Evt :=
  let up := decide (Y.lastT < m.lt) || (decide (m.lt = Y.lastT) && decide (Y.L.last ≤ m.idx))
  let Y1 : YS := { Y with e := (El.askF Y.e m.fr m.term up).2 }
  ⟨persF Y1, persS Y1, [replyF 2 m.fr (El.askF Y.e m.fr m.term up).1 0 (persF Y1)]⟩
def voteGotY (m : MsgV) (Y : YS) : Evt :=
  let Y1 : YS := { Y with e := (El.gotF Y.e m.fr m.term m.ok).2 }
  let Y2 := persF Y1
  if (El.gotF Y.e m.fr m.term m.ok).1 = true then
    let Y3 : YS := { Y2 with nx := fun q => if q < 3 then Y2.L.last + 1 else Y2.nx q, mt := fun q => if q < 3 then 0 else Y2.mt q }
    let S := (appendS Y3.e.term estr Y3.L).2
    ⟨setL Y3 S, persS Y1 ++ S, sendAllF (setL Y3 S)⟩
  else ⟨Y2, persS Y1, []⟩
def entsY (m : MsgV) (Y : YS) : Evt :=
  let Y1 : YS := { Y with e := (El.heardF Y.e m.fr m.term).2 }
  let Y2 := persF Y1
  if (El.heardF Y.e m.fr m.term).1 = true then
    ⟨(acceptF m Y2).2.1, persS Y1 ++ (acceptF m Y2).2.2, [replyF 4 m.fr (acceptF m Y2).1.1 (acceptF m Y2).1.2 (acceptF m Y2).2.1]⟩
  else ⟨Y2, persS Y1, [replyF 4 m.fr false 0 Y2]⟩
def snapY (m : MsgV) (Y : YS) : Evt :=
  let Y1 : YS := { Y with e := (El.heardF Y.e m.fr m.term).2 }
  let Y2 := persF Y1
  if (El.heardF Y.e m.fr m.term).1 = true then
    if m.idx ≤ Y2.cm then ⟨Y2, persS Y1, [replyF 4 m.fr true Y2.cm Y2]⟩
    else if (installS m.idx m.lt m.data Y2.L).1 = 0 then
      let Y3 : YS := { setL Y2 (installS m.idx m.lt m.data Y2.L).2 with cm := m.idx }
      ⟨Y3, persS Y1 ++ (installS m.idx m.lt m.data Y2.L).2, [replyF 4 m.fr true m.idx Y3]⟩
    else ⟨Y2, persS Y1, [replyF 4 m.fr false 0 Y2]⟩
  else ⟨Y2, persS Y1, [replyF 4 m.fr false 0 Y2]⟩
def msgB (m : MsgV) : Bool :=
  decide (1 ≤ m.kind ∧ m.kind ≤ 5 ∧ 0 ≤ m.fr ∧ m.fr < 3 ∧ 0 ≤ m.to ∧ m.to < 3) && decide (0 ≤ m.term ∧ m.term ≤ MX ∧ 0 ≤ m.idx ∧ m.idx ≤ MX) && decide (0 ≤ m.lt ∧ m.lt ≤ MX ∧ 0 ≤ m.cm ∧ m.cm ≤ MX)
  && decide (m.ents.length ≤ 2 ∧ m.data.size ≤ 128) && m.ents.all fun e => decide (0 ≤ e.1 ∧ e.1 ≤ MX ∧ e.2.size ≤ 24)
def stepY (m : MsgV) (Y : YS) : Evt :=
  if msgB m = false ∨ m.to ≠ Y.e.id ∨ m.fr = Y.e.id then ⟨Y, [], []⟩
  else if m.kind = 1 then voteAskY m Y else if m.kind = 2 then voteGotY m Y else if m.kind = 3 then entsY m Y else if m.kind = 5 then snapY m Y else ackY m Y
def openY (i : Int) (L : LogS) : YS := ⟨L, (El.restF (El.newF i) L.term L.vote).2, L.base, fun _ => 0, fun _ => 0⟩
end Go.Proofs.Qxb6500430aGreat
