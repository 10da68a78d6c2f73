/-
  host: the plain host with its frames: link, ip, table and blocks.
-/
import Derived.Test.Qxb6500424aGreatHoA
import Derived.Test.Qxb6500424aGreatFramePlain
import Derived.Test.Qxb6500424aGreatIpR
import Derived.Test.Qxb6500424aGreatSgD
set_option linter.unusedVariables false
set_option linter.unusedSimpArgs false
namespace Go.Proofs.Qxb6500424aGreat
structure HS where
  addr : Int
  clk : Int
  lost : Int
  dr : Nat → Int
  L : Fm.LinkS
  nx : Int
  cr : Int
  A : List Ip.AR
  t : TC
/-- The packets of a datagram, and their frames. -/
def frm (src dst id : Int) (D : List Int) : List (List Int) := (List.range (Ip.cntF D.length)).map fun i => Fm.encFrame dst src 1 (Ip.pktF 6 src dst id D i)
def bumpN (L : Fm.LinkS) (n : Nat) : Fm.LinkS := { L with out := L.out + n }
def sgB (src : Int) (o : OutS) : List Int := encSeg src o.1 o.2.1 o.2.2
/-- The one road out. -/
def sendH (h : HS) (o : OutS) : HS × List (List Int) :=
  if encErr h.addr o.1 o.2.1 o.2.2.length ≠ 0 then (h, [])
  else if h.cr ≤ 0 then ({ h with lost := h.lost + 1 }, [])
  else ({ h with nx := (h.nx + 1) % 256, cr := h.cr - 1, L := bumpN h.L (Ip.cntF (sgB h.addr o).length) }, frm h.addr o.1 h.nx (sgB h.addr o))
def sendAllH (h : HS) : List OutS → HS × List (List Int)
  | [] => (h, [])
  | o :: l => ((sendAllH (sendH h o).1 l).1, (sendH h o).2 ++ (sendAllH (sendH h o).1 l).2)
def dropH (h : HS) (k : Nat) : HS := { h with dr := fun j => if j = k then h.dr j + 1 else h.dr j }
def inTopH (h : HS) (src : Int) (s : SegV) : HS × List (List Int) :=
  sendAllH (dropH { h with t := (inSegT h.clk src s h.t).1 } (inSegT h.clk src s h.t).2.2) (inSegT h.clk src s h.t).2.1
def inIpH (h : HS) (r : Ip.InR) : HS × List (List Int) :=
  if r.err ≠ 0 then (dropH h 2, []) else if r.proto ≠ 6 then (dropH h 3, [])
  else if decErr r.src r.dst r.data ≠ 0 then (dropH h 4, []) else inTopH h r.src (decHd r.data, r.data.drop 8)
def inputH (h : HS) (raw : List Int) : HS × List (List Int) :=
  if (Fm.decR h.addr raw).err ≠ 0 then (dropH { h with L := h.L.bump (Fm.decR h.addr raw).cls } 0, [])
  else if (Fm.decR h.addr raw).typ ≠ 1 then (dropH { h with L := h.L.bump (Fm.decR h.addr raw).cls } 1, [])
  else inIpH { h with L := h.L.bump (Fm.decR h.addr raw).cls, A := (Ip.inF h.addr h.A (Fm.decR h.addr raw).pay).tab } (Ip.inF h.addr h.A (Fm.decR h.addr raw).pay)
def tickH0 (h : HS) : HS := { h with clk := h.clk + 1, cr := 24, A := Ip.tickA h.A }
def tickH (h : HS) : HS × List (List Int) := sendAllH { tickH0 h with t := (tickT (sdsE h.t.K.E) h.t).1 } (tickT (sdsE h.t.K.E) h.t).2
def callH {α : Type} (h : HS) (r : CallR α) : HS × List (List Int) := sendAllH { h with t := r.t } r.G
section
variable {h : HS} {o : OutS} {l l2 : List OutS}
theorem sendAllH_append : ∀ (l : List OutS) (h : HS) (l2 : List OutS), sendAllH h (l ++ l2) = ((sendAllH (sendAllH h l).1 l2).1, (sendAllH h l).2 ++ (sendAllH (sendAllH h l).1 l2).2)
  | [], h, l2 => by simp [sendAllH]
  | o :: l, h, l2 => by
    simp only [List.cons_append, sendAllH]
    rw [sendAllH_append l (sendH h o).1 l2, List.append_assoc]
theorem sendH_t (h : HS) (o : OutS) : (sendH h o).1.t = h.t ∧ (sendH h o).1.addr = h.addr ∧ (sendH h o).1.clk = h.clk ∧ (sendH h o).1.A = h.A ∧ (sendH h o).1.dr = h.dr := by
  unfold sendH
  split
  · exact ⟨rfl, rfl, rfl, rfl, rfl⟩
  split
  · exact ⟨rfl, rfl, rfl, rfl, rfl⟩
  · exact ⟨rfl, rfl, rfl, rfl, rfl⟩
theorem sendAllH_t : ∀ (l : List OutS) (h : HS), (sendAllH h l).1.t = h.t ∧ (sendAllH h l).1.addr = h.addr ∧ (sendAllH h l).1.clk = h.clk ∧ (sendAllH h l).1.A = h.A ∧ (sendAllH h l).1.dr = h.dr
  | [], h => ⟨rfl, rfl, rfl, rfl, rfl⟩
  | o :: l, h => by
    obtain ⟨a1, a2, a3, a4, a5⟩ := sendAllH_t l (sendH h o).1
    obtain ⟨b1, b2, b3, b4, b5⟩ := sendH_t h o
    exact ⟨a1.trans b1, a2.trans b2, a3.trans b3, a4.trans b4, a5.trans b5⟩
/-- Sending does not look at the table. -/
theorem sendH_with (h : HS) (o : OutS) (t : TC) : sendH { h with t := t } o = ({ (sendH h o).1 with t := t }, (sendH h o).2) := by
  unfold sendH
  split
  · rfl
  split
  · rfl
  · rfl
theorem sendAllH_with : ∀ (l : List OutS) (h : HS) (t : TC), sendAllH { h with t := t } l = ({ (sendAllH h l).1 with t := t }, (sendAllH h l).2)
  | [], h, t => rfl
  | o :: l, h, t => by
    simp only [sendAllH]
    rw [sendH_with]
    rw [sendAllH_with l (sendH h o).1 t]
theorem sendH_drop (h : HS) (o : OutS) (k : Nat) : sendH (dropH h k) o = (dropH (sendH h o).1 k, (sendH h o).2) := by
  unfold sendH dropH
  split
  · rfl
  split
  · rfl
  · rfl
theorem sendAllH_drop : ∀ (l : List OutS) (h : HS) (k : Nat), sendAllH (dropH h k) l = (dropH (sendAllH h l).1 k, (sendAllH h l).2)
  | [], h, k => rfl
  | o :: l, h, k => by
    simp only [sendAllH]
    rw [sendH_drop]
    rw [sendAllH_drop l (sendH h o).1 k]
end
end Go.Proofs.Qxb6500424aGreat
