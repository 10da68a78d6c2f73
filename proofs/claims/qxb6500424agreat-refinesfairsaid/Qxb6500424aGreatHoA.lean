/-
  host: the plain host: its table and blocks, and what it wants to send.
-/
import Derived.Test.Qxb6500424aGreatHpK
set_option linter.unusedVariables false
set_option linter.unusedSimpArgs false
namespace Go.Proofs.Qxb6500424aGreat
structure TC where
  K : Sk.SkS
  C : Nat → CS
/-- A segment, and to which address it goes. -/
abbrev OutS := Int × SegV
def stampS (e : Sk.Ent) (s : SegV) : OutS := (e.rh, ({ s.1 with sp := e.lp, dp := e.rp }, s.2))
def slotN (a : Sk.AE) : Nat := a.1.slot.toNat
def toRowT (sd : Int) (s : SegV) (t : TC) : TC × List OutS := match Sk.getE t.K.E sd with
  | none => (t, [])
  | some a => (⟨if a.1.par ≠ 0 ∧ a.1.rdy = false ∧ (inputF s.1 s.2 (t.C (slotN a))).1.st = 3 then (Sk.readyA sd t.K).2 else t.K, updX t.C (slotN a) (inputF s.1 s.2 (t.C (slotN a))).1⟩, (inputF s.1 s.2 (t.C (slotN a))).2.map (stampS a.1))
def toLisT (clk src : Int) (s : SegV) (t : TC) : TC × List OutS × Nat :=
  if (Sk.childA s.1.dp src s.1.sp t.K).1.2 ≠ 0 then (t, [], 5) else
  match Sk.getE (Sk.childA s.1.dp src s.1.sp t.K).2.E (Sk.childA s.1.dp src s.1.sp t.K).1.1 with
  | none => (⟨(Sk.childA s.1.dp src s.1.sp t.K).2, t.C⟩, [], 8)
  | some a => if (openPF (clk % 256) s.1 (t.C (slotN a))).e ≠ 0 then (⟨(Sk.childA s.1.dp src s.1.sp t.K).2, updX t.C (slotN a) (openPF (clk % 256) s.1 (t.C (slotN a))).C⟩, [], 8)
    else (⟨(Sk.childA s.1.dp src s.1.sp t.K).2, updX t.C (slotN a) (openPF (clk % 256) s.1 (t.C (slotN a))).C⟩, (openPF (clk % 256) s.1 (t.C (slotN a))).G.map (stampS a.1), 8)
def nobN (s : SegV) : Int := (s.2.length : Int) + (if fAnd s.1.fl 1 ≠ 0 then 1 else 0) + (if fAnd s.1.fl 4 ≠ 0 then 1 else 0)
def nobodyS (s : SegV) : SegV := if fAnd s.1.fl 2 ≠ 0 then (⟨s.1.dp, s.1.sp, s.1.ak, 0, 8, 0⟩, []) else (⟨s.1.dp, s.1.sp, 0, sqAdd s.1.sq (nobN s), 10, 0⟩, [])
/-- What a segment does; the last number: which of the host's counters moves (8: none). -/
def inSegT (clk src : Int) (s : SegV) (t : TC) : TC × List OutS × Nat :=
  if Sk.lookE t.K.E s.1.dp src s.1.sp ≠ 0 then ((toRowT (Sk.lookE t.K.E s.1.dp src s.1.sp) s t).1, (toRowT (Sk.lookE t.K.E s.1.dp src s.1.sp) s t).2, 8)
  else if s.1.fl = 1 ∧ Sk.lisE t.K.E s.1.dp ≠ 0 then toLisT clk src s t
  else if fAnd s.1.fl 8 ≠ 0 then (t, [], 6) else (t, [(src, nobodyS s)], 7)
def tick1T (a : Sk.AE) (t : TC) : TC × List OutS :=
  (⟨if (tickF (t.C (slotN a))).1.st = 0 then (Sk.freeA a.1.sd t.K).2 else t.K, updX t.C (slotN a) (tickF (t.C (slotN a))).1⟩, (tickF (t.C (slotN a))).2.map (stampS a.1))
def tickT : List Int → TC → TC × List OutS
  | [], t => (t, [])
  | sd :: l, t => match Sk.getE t.K.E sd with
    | none => tickT l t
    | some a => if a.1.kind ≠ 2 then tickT l t else ((tickT l (tick1T a t).1).1, (tick1T a t).2 ++ (tickT l (tick1T a t).1).2)
def sdsE (E : List Sk.AE) : List Int := E.map fun a => a.1.sd
structure CallR (α : Type) where
  v : α
  e : Int
  t : TC
  G : List OutS
def connectT (clk rh rp : Int) (t : TC) : CallR Int :=
  if (Sk.connectA rh rp t.K).1.2 ≠ 0 then ⟨0, (Sk.connectA rh rp t.K).1.2, t, []⟩ else
  match Sk.getE (Sk.connectA rh rp t.K).2.E (Sk.connectA rh rp t.K).1.1 with
  | none => ⟨0, 21, ⟨(Sk.connectA rh rp t.K).2, t.C⟩, []⟩
  | some a => if (openAF (clk % 256) (t.C (slotN a))).e ≠ 0 then ⟨0, (openAF (clk % 256) (t.C (slotN a))).e, ⟨(Sk.connectA rh rp t.K).2, updX t.C (slotN a) (openAF (clk % 256) (t.C (slotN a))).C⟩, []⟩
    else ⟨(Sk.connectA rh rp t.K).1.1, 0, ⟨(Sk.connectA rh rp t.K).2, updX t.C (slotN a) (openAF (clk % 256) (t.C (slotN a))).C⟩, (openAF (clk % 256) (t.C (slotN a))).G.map (stampS a.1)⟩
def oursE (E : List Sk.AE) (sd : Int) : Option Sk.AE := match Sk.getE E sd with
  | none => none
  | some a => if a.1.kind = 2 ∧ a.1.par = 0 then some a else none
def lisB (E : List Sk.AE) (sd : Int) : Bool := match Sk.getE E sd with
  | none => false
  | some a => decide (a.1.kind = 1)
def sendT (sd : Int) (P : List Int) (t : TC) : CallR Int := match oursE t.K.E sd with
  | none => ⟨0, 21, t, []⟩
  | some a => if (sendF P (t.C (slotN a))).2.e ≠ 0 then ⟨0, (sendF P (t.C (slotN a))).2.e, ⟨t.K, updX t.C (slotN a) (sendF P (t.C (slotN a))).2.C⟩, []⟩
    else ⟨(sendF P (t.C (slotN a))).1, 0, ⟨t.K, updX t.C (slotN a) (sendF P (t.C (slotN a))).2.C⟩, (sendF P (t.C (slotN a))).2.G.map (stampS a.1)⟩
def recvT (sd mx : Int) (t : TC) : CallR (List Int) := match oursE t.K.E sd with
  | none => ⟨[], 21, t, []⟩
  | some a => if (recvF mx (t.C (slotN a))).2.e ≠ 0 then ⟨[], (recvF mx (t.C (slotN a))).2.e, ⟨t.K, updX t.C (slotN a) (recvF mx (t.C (slotN a))).2.C⟩, []⟩
    else ⟨(recvF mx (t.C (slotN a))).1, 0, ⟨t.K, updX t.C (slotN a) (recvF mx (t.C (slotN a))).2.C⟩, (recvF mx (t.C (slotN a))).2.G.map (stampS a.1)⟩
def shut1T (lsd sd : Int) (t : TC) : TC × List OutS := match Sk.getE t.K.E sd with
  | none => (t, [])
  | some a => if a.1.par ≠ lsd then (t, []) else
    if (abortF (t.C (slotN a))).e = 0 then (⟨t.K, updX t.C (slotN a) (abortF (t.C (slotN a))).C⟩, (abortF (t.C (slotN a))).G.map (stampS a.1)) else (⟨t.K, updX t.C (slotN a) (abortF (t.C (slotN a))).C⟩, [])
def shutLT (lsd : Int) : List Int → TC → TC × List OutS
  | [], t => (t, [])
  | sd :: l, t => ((shutLT lsd l (shut1T lsd sd t).1).1, (shut1T lsd sd t).2 ++ (shutLT lsd l (shut1T lsd sd t).1).2)
def shutT (lsd : Int) (t : TC) : TC × List OutS := (⟨(Sk.freeA lsd (shutLT lsd (sdsE t.K.E) t).1.K).2, (shutLT lsd (sdsE t.K.E) t).1.C⟩, (shutLT lsd (sdsE t.K.E) t).2)
def endT (f : CS → OutC) (sd : Int) (t : TC) : CallR Unit :=
  if lisB t.K.E sd = true then ⟨(), 0, (shutT sd t).1, (shutT sd t).2⟩ else match oursE t.K.E sd with
  | none => ⟨(), 21, t, []⟩
  | some a => if (f (t.C (slotN a))).e ≠ 0 then ⟨(), (f (t.C (slotN a))).e, ⟨t.K, updX t.C (slotN a) (f (t.C (slotN a))).C⟩, []⟩
    else ⟨(), 0, ⟨t.K, updX t.C (slotN a) (f (t.C (slotN a))).C⟩, (f (t.C (slotN a))).G.map (stampS a.1)⟩
end Go.Proofs.Qxb6500424aGreat
