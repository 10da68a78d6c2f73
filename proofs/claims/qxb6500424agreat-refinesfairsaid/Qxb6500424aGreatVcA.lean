/-
  Vc, part A: one operation's verification condition ('opv'), and that it is sound for the model's own run.
  Generic: no program is named here.
-/
import Derived.Orders
import Derived.Laws.World
import Derived.Laws.Cells
import Derived.Laws.Append
import Derived.Laws.AppendOwn
import Derived.Laws.MakeOwn
import Derived.Laws.BytesString
import Derived.Laws.CopyRow
import Derived.Laws.Entries
import Derived.Laws.Slices
import Derived.Laws.Strings
import Derived.Laws.Strings2
import Derived.Laws.IdiomStrings
import Derived.KernelRfl
namespace Go.Vc

/-! ### Combinators: what a printed condition is made of -/
def New (o : Obj) (w : World) (K : Nat → World → Prop) : Prop := K w.heap.size (w.alloc o)
def St (a : Addr) (v : Value) (w : World) (K : World → Prop) : Prop := (∃ u, w.cell? a = some u) ∧ w.frozen? a = false ∧ K (w.setCell a v)
def Sts : List Value → Addr → Nat → World → (World → Prop) → Prop
  | [], _, _, w, K => K w
  | v :: vs, a, i, w, K => v.oneCell' = true ∧ St (a.add i) v w fun w' => Sts vs a (i + 1) w' K
def LdI (k : IntKind) (a : Addr) (w : World) (K : Int → Prop) : Prop := ∃ n, w.cell? a = some (.int k n) ∧ K n
def LdB (a : Addr) (w : World) (K : Bool → Prop) : Prop := ∃ n, w.cell? a = some (.bool n) ∧ K n
def LdS (a : Addr) (w : World) (K : ByteArray → Prop) : Prop := ∃ n, w.cell? a = some (.string n) ∧ K n
def LdP (a : Addr) (w : World) (K : Option Addr → Prop) : Prop := ∃ n, w.cell? a = some (.pointer n) ∧ K n
def LdL (a : Addr) (w : World) (K : Option Addr → Nat → Nat → Prop) : Prop := ∃ b l c, w.cell? a = some (.slice b l c) ∧ K b l c
def Bm (b : Bool) (X Y : Prop) : Prop := match b with
  | true => X
  | false => Y
def Pn (p : Option Addr) (K : Addr → Prop) : Prop := match p with
  | some a => K a
  | none => False
/-- Byte i of a string, as Go's int of it. -/
def byteAt (s : ByteArray) (i : Int) : Int := ((s.data.toList.getD i.toNat 0).toNat : Int)
/-- The cells of a row. -/
def CellsAt (w : World) (b : Option Addr) (vs : List Value) : Prop := match b with
  | some a => ∀ j v, vs[j]? = some v → w.cell? (a.add j) = some v
  | none => vs = []
/-- The bytes of a row as a string. -/
def bytesV (bs : List UInt8) : List Value := bs.map fun b => .int .u8 (b.toNat : Int)

def zeroOf (P : Program) (t : TypeId) : Option Value := (P.info? t).bind (·.zero)
def sizeQ (P : Program) (t : TypeId) : Option Nat := (P.info? t).map (·.size)
def aggQ (P : Program) (t : TypeId) : Option Bool := match P.underlying t with
  | some (.struct _) => some true
  | some (.array _ _) => some true
  | some _ => some false
  | none => none

/-! ### Typed existence: by the shape of a zero value -/
def exLike (z : Value) (J : Value → Prop) : Prop := match z with
  | .int k _ => ∃ n, J (.int k n)
  | .bool _ => ∃ b, J (.bool b)
  | .string _ => ∃ s, J (.string s)
  | .pointer _ => ∃ p, J (.pointer p)
  | .slice _ _ _ => ∃ a l c, J (.slice a l c)
  | _ => False
def exLikes : List Value → (List Value → Prop) → Prop
  | [], J => J []
  | z :: zs, J => exLike z fun v => exLikes zs fun vs => J (v :: vs)
/-- A value of type t: a struct's or an array's cells one by one. -/
def exType (P : Program) (t : TypeId) (J : Value → Prop) : Prop := match zeroOf P t with
  | some (.agg cs) => exLikes cs.toList fun vs => J (.agg vs.toArray)
  | some z => exLike z J
  | none => False
def exTypes (P : Program) : List TypeId → (List Value → Prop) → Prop
  | [], J => J []
  | t :: ts, J => exType P t fun v => exTypes P ts fun vs => J (v :: vs)
def exRes (P : Program) (ts : List TypeId) (J : Value → Prop) : Prop := match ts with
  | [t] => exType P t J
  | ts => exTypes P ts fun vs => J (.tuple vs.toArray)

/-! ### Loads -/
def ldCell (z : Value) (a : Addr) (w : World) (K : Value → Prop) : Prop := match z with
  | .int k _ => LdI k a w fun n => K (.int k n)
  | .bool _ => LdB a w fun b => K (.bool b)
  | .string _ => LdS a w fun s => K (.string s)
  | .pointer _ => LdP a w fun p => K (.pointer p)
  | .slice _ _ _ => LdL a w fun b l c => K (.slice b l c)
  | _ => False
def ldCells : List Value → Addr → Nat → World → (List Value → Prop) → Prop
  | [], _, _, _, K => K []
  | z :: zs, a, i, w, K => ldCell z (a.add i) w fun v => ldCells zs a (i + 1) w fun vs => K (v :: vs)
def ldVar (P : Program) (t : TypeId) (a : Addr) (w : World) (K : Value → Prop) : Prop :=
  match aggQ P t, zeroOf P t, sizeQ P t with
  | some true, some (.agg cs), some n => (match Nat.beq cs.toList.length n with
    | true => ldCells cs.toList a 0 w fun vs => K (.agg vs.toArray)
    | false => False)
  | some false, some z, some _ => ldCell z a w K
  | _, _, _ => False
def stVar (P : Program) (t : TypeId) (a : Addr) (v : Value) (w : World) (K : World → Prop) : Prop :=
  match sizeQ P t with
  | some n => (match Nat.beq v.cells.toList.length n with
    | true => Sts v.cells.toList a 0 w K
    | false => False)
  | none => False

/-! ### Appending, copying, making -/
def Append (e : TypeId) (z : Value) (sz by_ : Nat) (b : Option Addr) (l c : Nat) (xb : Option Addr) (n : Nat) (w : World) (K : Option Addr → Nat → World → Prop) : Prop :=
  ∃ news : List Value, news.length = n * sz ∧ CellsAt w xb news ∧
    ((l + n ≤ c → match b with
      | some a => Sts news (a.add (l * sz)) 0 w fun w' => K b c w'
      | none => K none c w) ∧
     (c < l + n → ((l + n : Nat) : Int) ≤ 9223372036854775807 ∧ Builtin.nextslicecap (l + n) c * by_ ≤ 281474976710656 ∧
      ∃ olds : List Value, olds.length = l * sz ∧ CellsAt w b olds ∧
        ∀ cap, l + n ≤ cap → cap ≤ 9223372036854775807 → New (.cells (olds.toArray ++ news.toArray ++ Builtin.zeroCells z.cells (cap - (l + n))) e) w.drew fun r w' => K (some ⟨r, 0, none⟩) cap w'))
def Copy (sz : Nat) (b : Option Addr) (l : Nat) (xb : Option Addr) (n : Nat) (w : World) (K : Int → World → Prop) : Prop :=
  ∃ news : List Value, news.length = Nat.min n l * sz ∧ CellsAt w xb news ∧
    (match b with
      | some a => Sts news a 0 w fun w' => K (Nat.min n l : Nat) w'
      | none => K (Nat.min n l : Nat) w)
def Make (e : TypeId) (z : Value) (sz by_ : Nat) (l c : Int) (w : World) (K : Nat → World → Prop) : Prop :=
  (0 ≤ l ∧ l ≤ c ∧ (by_ : Int) * c ≤ 281474976710656 ∧ c ≤ 9223372036854775807) ∧ New (.cells (madeCells z.cells (c.toNat * sz)) e) w K
/-- []byte(s): the capacity is open; the new block bears a mark one past its end. -/
def ToBytes (e : TypeId) (s : ByteArray) (w : World) (K : Nat → Nat → World → Prop) : Prop :=
  ∀ cap, s.size ≤ cap → (s.size ≤ 9223372036854775807 → cap ≤ 9223372036854775807) → New (.cells ((bytesV s.data.toList).toArray ++ Array.replicate (cap - s.size) (.int .u8 0)) e (cap, cap + 1)) w.drew fun r w' => K r cap w'
/-- string(b). -/
def ToStr (b : Option Addr) (l : Nat) (w : World) (K : ByteArray → Prop) : Prop := match b with
  | none => K ByteArray.empty
  | some a => ∃ s : ByteArray, s.size = l ∧ CellsAt w (some a) (bytesV s.data.toList) ∧ K s

/-! ### Struct literals -/
def putCells : List Value → Nat → List Value → List Value
  | cs, _, [] => cs
  | cs, i, v :: vs => putCells (cs.set i v) (i + 1) vs
def fillL (place : Nat → Option (Nat × Nat)) (cells : List Value) : List (Nat × Value) → Option (List Value)
  | [] => some cells
  | (i, v) :: rest => match place i with
    | none => none
    | some (off, size) => match Nat.beq v.cells.toList.length size && Nat.ble (off + v.cells.toList.length) cells.length with
      | true => fillL place (putCells cells off v.cells.toList) rest
      | false => none
def placesOf (P : Program) : List Field → Option (List (Nat × Nat))
  | [] => some []
  | f :: fs => match sizeQ P f.type, placesOf P fs with
    | some n, some r => some ((f.offset, n) :: r)
    | _, _ => none
def buildV (P : Program) (t : TypeId) (parts : List (Nat × Value)) : Option Value :=
  match zeroOf P t, P.underlying t with
  | some z, some (.struct fields) => (match placesOf P fields.toList with
    | some ps => (match fillL (fun i => ps[i]?) z.cells.toList parts with
      | some cs => some (.agg cs.toArray)
      | none => none)
    | none => none)
  | some z, some (.array _ elem) => (match sizeQ P elem with
    | some n => (match fillL (fun i => some (i * n, n)) z.cells.toList parts with
      | some cs => some (.agg cs.toArray)
      | none => none)
    | none => none)
  | _, _ => none
def repCells : Nat → List Value → List Value
  | 0, _ => []
  | n + 1, z => z ++ repCells n z
def buildSliceV (P : Program) (t : TypeId) (len : Nat) (parts : List (Nat × Value)) : Option (TypeId × List Value) :=
  match P.underlying t with
  | some (.slice e) => (match zeroOf P e, sizeQ P e with
    | some z, some n => (match Nat.ble (len * n) 16777216 && Nat.beq z.cells.toList.length n && Nat.blt 0 (len * n) with
      | true => (match fillL (fun i => some (i * n, n)) (repCells len z.cells.toList) parts with
        | some cs => some (e, cs)
        | none => none)
      | false => (match len, parts with
        | 0, [] => some (e, [])
        | _, _ => none))
    | _, _ => none)
  | _ => none

/-! ### Calls -/
def callable (P : Program) (f : FuncId) : Bool := match P.funcs[f]? with
  | some fn => fn.body.isSome && !(fn.name == "runtime.NumGoroutine")
  | none => false
def resTypes (P : Program) (f : FuncId) : List TypeId := match P.funcs[f]? with
  | some fn => fn.resultTypes.toList
  | none => []
/-- A call that returns; its result in typed form. -/
def CallT (P : Program) (f : FuncId) (args : Array Value) (w : World) (K : Value → World → Prop) : Prop :=
  Calls P f args w fun e w' => exRes P (resTypes P f) fun v => e = .returned v ∧ K v w'

/-! ### Binary operators -/
def isInt (P : Program) (t : TypeId) : Bool := match P.underlying t with
  | some (.int _) => true
  | _ => false
/-- False, two definitions high: so that the kernel opens 'ckBool' ahead of 'Bm' (whose test it had better not run). -/
def noWay0 : Prop := Bm true False False
def noWay : Prop := noWay0
def ckBool (b : Bool) (X : Prop) : Prop := match b with
  | true => X
  | false => noWay
def intV (op : BinOp) (k : IntKind) (a b : Int) (K : Value → Prop) : Prop := match op with
  | .add => K (.int k (k.wrap (a + b)))
  | .sub => K (.int k (k.wrap (a - b)))
  | .mul => K (.int k (k.wrap (a * b)))
  | .quo => b ≠ 0 ∧ K (.int k (k.wrap (a.tdiv b)))
  | .rem => b ≠ 0 ∧ K (.int k (a.tmod b))
  | .and => K (.int k (k.wrap (BitVec.ofInt k.bits a &&& BitVec.ofInt k.bits b).toNat))
  | .or => K (.int k (k.wrap (BitVec.ofInt k.bits a ||| BitVec.ofInt k.bits b).toNat))
  | .xor => K (.int k (k.wrap (BitVec.ofInt k.bits a ^^^ BitVec.ofInt k.bits b).toNat))
  | .andNot => K (.int k (k.wrap (BitVec.ofInt k.bits a &&& ~~~ BitVec.ofInt k.bits b).toNat))
  | .eql => K (.bool (a == b))
  | .neq => K (.bool (a != b))
  | .lss => K (.bool (decide (a < b)))
  | .leq => K (.bool (decide (a ≤ b)))
  | .gtr => K (.bool (decide (a > b)))
  | .geq => K (.bool (decide (a ≥ b)))
  | _ => False
/-- Two arrays of three integers: are they unlike? -/
def arr3V (P : Program) (t : TypeId) (xs ys : List Value) (K : Value → Prop) : Prop :=
  match xs, ys with
  | [.int .i64 a0, .int .i64 a1, .int .i64 a2], [.int .i64 b0, .int .i64 b1, .int .i64 b2] => (match P.underlying t with
    | some (.array 3 e) => (match P.underlying e, sizeQ P e with
      | some (.int .i64), some 1 => ckBool (!(P.eqGuardType P.depth t)) (K (.bool (!(a0 == b0 && (a1 == b1 && a2 == b2)))))
      | _, _ => False)
    | _ => False)
  | _, _ => False
def binV (P : Program) (op : BinOp) (t : TypeId) (x y : Value) (K : Value → Prop) : Prop :=
  match op, x, y with
  | .shl, .int k a, .int _ b => 0 ≤ b ∧ K (.int k (k.wrap (a * 2 ^ (min b.toNat k.bits))))
  | .shr, .int k a, .int _ b => 0 ≤ b ∧ K (.int k (a.fdiv (2 ^ (min b.toNat k.bits))))
  | op, .int k a, .int k' b => ckBool (decide (k = k')) (intV op k a b K)
  | .add, .string a, .string b => ((a.size + b.size : Nat) : Int) ≤ 9223372036854775807 ∧ K (.string (a ++ b))
  | .eql, .string a, .string b => K (.bool (a.toList == b.toList))
  | .neq, .string a, .string b => K (.bool (!(a.toList == b.toList)))
  | .lss, .string a, .string b => K (.bool (Op.bytesLess a.toList b.toList))
  | .leq, .string a, .string b => K (.bool (Op.bytesLess a.toList b.toList || a.toList == b.toList))
  | .gtr, .string a, .string b => K (.bool (!(Op.bytesLess a.toList b.toList || a.toList == b.toList)))
  | .geq, .string a, .string b => K (.bool (!(Op.bytesLess a.toList b.toList)))
  | .eql, .bool a, .bool b => (match P.underlying t with
    | some .bool => K (.bool (a == b))
    | _ => False)
  | .neq, .bool a, .bool b => (match P.underlying t with
    | some .bool => K (.bool (!(a == b)))
    | _ => False)
  | .eql, .pointer p, .pointer none => (match P.underlying t with
    | some (.pointer _) => K (.bool p.isNone)
    | _ => False)
  | .neq, .pointer p, .pointer none => (match P.underlying t with
    | some (.pointer _) => K (.bool (!p.isNone))
    | _ => False)
  | .eql, .slice b _ _, .slice none _ _ => (match P.underlying t with
    | some (.slice _) => K (.bool b.isNone)
    | _ => False)
  | .neq, .slice b _ _, .slice none _ _ => (match P.underlying t with
    | some (.slice _) => K (.bool (!b.isNone))
    | _ => False)
  | .neq, .agg xs, .agg ys => arr3V P t xs.toList ys.toList K
  | _, _, _ => False

/-! ### Slicing -/
def boundC (v : Option Value) (d : Nat) (top : Int) (K : Int → Prop) : Prop := match v with
  | none => K (d : Int)
  | some (.int _ n) => (0 ≤ n ∧ n ≤ top) ∧ K n
  | some _ => False
/-- x[lo:hi:mx] where the bounds' default is (0, len, cap). -/
def sliceV (len cap : Nat) (lo hi mx : Option Value) (K : Int → Int → Int → Prop) : Prop := match hi, mx with
  | none, some _ => False
  | hi, mx => boundC mx cap cap fun m => boundC hi len m fun h => boundC lo 0 h fun l => K l h m

/-! ### One operation -/
def slBase (b : Option Addr) (l m : Int) (n : Nat) : Option Addr := if m.toNat = l.toNat then b else b.map (·.add (l.toNat * n))
def slBaseA (a : Addr) (l m : Int) (n : Nat) : Addr := if m.toNat = l.toNat then a else a.add (l.toNat * n)
def idxQ (P : Program) (e : TypeId) (len : Nat) (p : Option Addr) (ix : Value) (K : Addr → Prop) : Prop :=
  match sizeQ P e, ix with
  | some n, .int _ i => Pn p fun a => (0 ≤ i ∧ i < (len : Int)) ∧ K (a.add (i.toNat * n))
  | _, _ => False
def unV (op : UnOp) (x : Value) (K : Value → Prop) : Prop := match op, x with
  | .not, .bool b => K (.bool (!b))
  | .neg, .int k n => K (.int k (k.wrap (0 - n)))
  | .xor, .int k n => K (.int k (k.wrap (BitVec.ofInt k.bits (if k.signed then -1 else k.max) ^^^ BitVec.ofInt k.bits n).toNat))
  | _, _ => False
def convV (P : Program) (src dst : TypeId) (x : Value) (w : World) (K : Value → World → Prop) : Prop :=
  match P.underlying src, P.underlying dst, x with
  | some _, some (.int k), .int _ n => K (.int k (k.wrap n)) w
  | some .string, some (.slice e), .string s => (match P.underlying e with
    | some (.int .u8) => ToBytes e s w fun r cap w' => K (.slice (some ⟨r, 0, none⟩) s.size cap) w'
    | _ => False)
  | some (.slice e), some .string, .slice b l _ => (match P.underlying e with
    | some (.int .u8) => ToStr b l w fun s => K (.string s) w
    | _ => False)
  | _, _, _ => False
def callV (P : Program) (ρ : Operand → Value) (c : Call) (w : World) (K : Value → World → Prop) : Prop :=
  match c.callee, c.argTypes.toList, c.args.toList with
  | .value (.func f), _, as => ckBool (callable P f) (CallT P f (as.map ρ).toArray w K)
  | .builtin .len, [t], [x] => (match P.underlying t, ρ x with
    | some .string, .string s => K (.int .i64 (s.size : Int)) w
    | some (.slice _), .slice _ n _ => K (.int .i64 (n : Int)) w
    | _, _ => False)
  | .builtin .cap, [t], [x] => (match P.underlying t, ρ x with
    | some (.slice _), .slice _ _ n => K (.int .i64 (n : Int)) w
    | _, _ => False)
  | .builtin .append, [t, t'], [x, y] => (match P.underlying t, ρ x, ρ y with
    | some (.slice e), .slice b l c, .slice xb n _ => (match P.info? e with
      | some i => (match i.zero with
        | some z => ckBool (Nat.beq t t') (Append e z i.size i.bytes b l c xb n w fun b' c' w' => K (.slice b' (l + n) c') w')
        | none => False)
      | none => False)
    | _, _, _ => False)
  | .builtin .copy, [t, t'], [x, y] => (match P.underlying t, ρ x, ρ y with
    | some (.slice e), .slice b l _, .slice xb n _ => (match P.info? e with
      | some i => ckBool (Nat.beq t t') (Copy i.size b l xb n w fun m w' => K (.int .i64 m) w')
      | none => False)
    | _, _, _ => False)
  | _, _, _ => False
def opv (P : Program) (ρ : Operand → Value) (o : Oper) (w : World) (K : Value → World → Prop) : Prop :=
  match o.op with
  | .move x => K (ρ x) w
  | .assign x => K (ρ x) w
  | .pick c a b => (match ρ c with
    | .bool t => K (match t with | true => ρ a | false => ρ b) w
    | _ => False)
  | .alloc t => (match zeroOf P t with
    | some z => New (.cells z.cells t) w fun r w' => K (.pointer (some ⟨r, 0, none⟩)) w'
    | none => False)
  | .box t x => New (.cells (ρ x).cells t) w fun r w' => K (.pointer (some ⟨r, 0, none⟩)) w'
  | .build t parts => (match buildV P t (parts.toList.map fun p => (p.1, ρ p.2)) with
    | some v => K v w
    | none => False)
  | .buildSlice t len parts => (match buildSliceV P t len (parts.toList.map fun p => (p.1, ρ p.2)) with
    | some (e, cs) => New (.cells cs.toArray e) w fun r w' => K (.slice (some ⟨r, 0, none⟩) len len) w'
    | none => False)
  | .load t x => (match ρ x with
    | .pointer p => Pn p fun a => ldVar P t a w fun v => K v w
    | _ => False)
  | .store t x y => (match ρ x with
    | .pointer p => Pn p fun a => stVar P t a (ρ y) w fun w' => K undef w'
    | _ => False)
  | .nilCheck x => (match ρ x with
    | .pointer p => Pn p fun a => K (.pointer (some a)) w
    | _ => False)
  | .binOp op t x y _ => binV P op t (ρ x) (ρ y) fun v => K v w
  | .unOp op _ x => unV op (ρ x) fun v => K v w
  | .convert src dst x => convV P src dst (ρ x) w K
  | .makeSlice t l c => (match P.underlying t, ρ l, ρ c with
    | some (.slice e), .int _ l, .int _ c => (match P.info? e with
      | some i => (match i.zero with
        | some z => Make e z i.size i.bytes l c w fun r w' => K (.slice (some ⟨r, 0, none⟩) l.toNat c.toNat) w'
        | none => False)
      | none => False)
    | _, _, _ => False)
  | .slice t x lo hi mx => (match P.underlying t, ρ x with
    | some .string, .string s => (match mx with
      | none => sliceV s.size s.size (lo.map ρ) (hi.map ρ) none fun l h _ => K (.string (s.extract l.toNat h.toNat)) w
      | some _ => False)
    | some (.slice e), .slice b len cap => (match sizeQ P e with
      | some n => sliceV len cap (lo.map ρ) (hi.map ρ) (mx.map ρ) fun l h m => K (.slice (slBase b l m n) (h.toNat - l.toNat) (m.toNat - l.toNat)) w
      | none => False)
    | some (.array k e), .pointer p => (match sizeQ P e with
      | some n => Pn p fun a => sliceV k k (lo.map ρ) (hi.map ρ) (mx.map ρ) fun l h m => K (.slice (some (slBaseA a l m n)) (h.toNat - l.toNat) (m.toNat - l.toNat)) w
      | none => False)
    | _, _ => False)
  | .fieldAddr s x f => (match P.underlying s with
    | some (.struct fields) => (match fields.toList[f]? with
      | some fd => (match sizeQ P fd.type, ρ x with
        | some (_ + 1), .pointer p => Pn p fun a => K (.pointer (some (a.add fd.offset))) w
        | _, _ => False)
      | none => False)
    | _ => False)
  | .indexAddr t x ix => (match P.underlying t, ρ x with
    | some (.array len e), .pointer p => idxQ P e len p (ρ ix) fun a => K (.pointer (some a)) w
    | some (.slice e), .slice b len _ => idxQ P e len b (ρ ix) fun a => K (.pointer (some a)) w
    | _, _ => False)
  | .index t x ix => (match P.underlying t, ρ x, ρ ix with
    | some .string, .string s, .int _ i => (0 ≤ i ∧ i < (s.size : Int)) ∧ K (.int .u8 (byteAt s i)) w
    | _, _, _ => False)
  | .extract x i => (match ρ x with
    | .tuple vs => (match vs.toList[i]? with
      | some v => K v w
      | none => False)
    | _ => False)
  | .call c => callV P ρ c w K
  | _ => False

/-- What one run of the model comes to. -/
def runOK (P : Program) (s : Sem Next) (w : World) (K : Value → World → Prop) : Prop := match s.run P w with
  | .ok (.value v) w' => K v w'
  | .ok .skip w' => K undef w'
  | .ok (.enter f args) w' => Calls P f args w' fun e w'' => ∃ v, e = .returned v ∧ K v w''
  | _ => False

theorem runOK_value {P : Program} {s : Sem Value} {w w' : World} {v : Value} {K : Value → World → Prop} (h : s.run P w = .ok v w') (hk : K v w') :
    runOK P (do pure (.value (← s))) w K := by
  simp only [runOK, Sem.run_bind, h, Result.andThen_ok, Sem.run_pure]; exact hk
theorem runOK_unit {P : Program} {s : Sem Unit} {w w' : World} {K : Value → World → Prop} (h : s.run P w = .ok () w') (hk : K undef w') :
    runOK P (do s; pure .skip) w K := by
  simp only [runOK, Sem.run_bind, h, Result.andThen_ok, Sem.run_pure]; exact hk

section
variable {P : Program} {w : World}
theorem zeroOf_spec {t : TypeId} {z : Value} (h : zeroOf P t = some z) : ∃ i, P.info? t = some i ∧ i.zero = some z := by
  simpa [zeroOf, Option.bind_eq_some_iff] using h
theorem sizeQ_spec {t : TypeId} {n : Nat} (h : sizeQ P t = some n) : ∃ i, P.info? t = some i ∧ i.size = n := by
  simpa [sizeQ, Option.map_eq_some_iff] using h
theorem run_zeroValue {t : TypeId} {z : Value} (h : zeroOf P t = some z) : (zeroValue t).run P w = .ok z w := by
  obtain ⟨i, hi, hz⟩ := zeroOf_spec h
  simp [zeroValue, typeInfo, hi, hz]
theorem run_sizeOf {t : TypeId} {n : Nat} (h : sizeQ P t = some n) : (sizeOf t).run P w = .ok n w := by
  obtain ⟨i, hi, hz⟩ := sizeQ_spec h
  simp [sizeOf, typeInfo, hi, hz]
theorem run_isAgg {t : TypeId} {b : Bool} (h : aggQ P t = some b) : (isAgg t).run P w = .ok b w := by
  unfold aggQ at h
  cases hu : P.underlying t with
  | none => simp [hu] at h
  | some d => cases d <;> simp [hu] at h <;> subst h <;> simp [isAgg, run_underlying hu]

theorem ldCell_spec {z : Value} {a : Addr} {K : Value → Prop} (h : ldCell z a w K) : ∃ v, w.cell? a = some v ∧ K v := by
  unfold ldCell at h
  split at h
  · obtain ⟨n, h1, h2⟩ := h; exact ⟨_, h1, h2⟩
  · obtain ⟨n, h1, h2⟩ := h; exact ⟨_, h1, h2⟩
  · obtain ⟨n, h1, h2⟩ := h; exact ⟨_, h1, h2⟩
  · obtain ⟨n, h1, h2⟩ := h; exact ⟨_, h1, h2⟩
  · obtain ⟨b, l, c, h1, h2⟩ := h; exact ⟨_, h1, h2⟩
  · exact h.elim
theorem run_load_some {a : Addr} {v : Value} (h : w.cell? a = some v) : (load a).run P w = .ok v w := by simp [h]
theorem ldCells_spec : ∀ (zs : List Value) (a : Addr) (i : Nat) (K : List Value → Prop), ldCells zs a i w K →
    ∃ vs, K vs ∧ ∀ acc, (loadCellsFrom a i zs.length acc).run P w = .ok (acc ++ vs.toArray) w
  | [], a, i, K, h => ⟨[], h, fun acc => by simp [loadCellsFrom]⟩
  | z :: zs, a, i, K, h => by
    obtain ⟨v, hv, h2⟩ := ldCell_spec h
    obtain ⟨vs, hk, hr⟩ := ldCells_spec zs a (i + 1) _ h2
    refine ⟨v :: vs, hk, fun acc => ?_⟩
    simp only [List.length_cons, loadCellsFrom, Sem.run_bind, run_load_some hv, Result.andThen_ok, hr]
    simp
theorem ldVar_spec {t : TypeId} {a : Addr} {K : Value → Prop} (h : ldVar P t a w K) : ∃ v, (loadVar t a).run P w = .ok v w ∧ K v := by
  unfold ldVar at h
  split at h
  · rename_i cs n ha hz hs
    split at h
    · rename_i hn
      have hn : cs.toList.length = n := Nat.eq_of_beq_eq_true hn
      obtain ⟨vs, hk, hr⟩ := ldCells_spec (P := P) _ _ _ _ h
      refine ⟨_, ?_, hk⟩
      simp only [loadVar, Sem.run_bind, run_isAgg ha, Result.andThen_ok, if_true, run_sizeOf hs, loadCells, ← hn, hr, Sem.run_pure]
      simp
    · exact h.elim
  · rename_i z n ha hz hs
    obtain ⟨v, hv, hk⟩ := ldCell_spec h
    refine ⟨v, ?_, hk⟩
    simp only [loadVar, Sem.run_bind, run_isAgg ha, Result.andThen_ok, Bool.false_eq_true, if_false, run_load_some hv]
  · exact h.elim
theorem run_store_some {a : Addr} {v u : Value} (h1 : v.oneCell' = true) (h : w.cell? a = some u) (hf : w.frozen? a = false) : (store a v).run P w = .ok () (w.setCell a v) := by
  rw [run_store P w a v _ h1]; simp [h, hf]
theorem Sts_spec : ∀ (vs : List Value) (a : Addr) (i : Nat) (w : World) (K : World → Prop), Sts vs a i w K → ∃ w', (storeCells a vs i).run P w = .ok () w' ∧ K w'
  | [], a, i, w, K, h => ⟨w, by simp [storeCells], h⟩
  | v :: vs, a, i, w, K, h => by
    obtain ⟨h1, ⟨u, hu⟩, hf, h2⟩ := h
    obtain ⟨w', hr, hk⟩ := Sts_spec vs a (i + 1) _ K h2
    exact ⟨w', by simp only [storeCells, Sem.run_bind, run_store_some h1 hu hf, Result.andThen_ok, hr], hk⟩
theorem stVar_spec {t : TypeId} {a : Addr} {v : Value} {K : World → Prop} (h : stVar P t a v w K) : ∃ w', (storeVar t a v).run P w = .ok () w' ∧ K w' := by
  unfold stVar at h
  split at h
  · rename_i n hs
    split at h
    · rename_i hn
      have hn : v.cells.toList.length = n := Nat.eq_of_beq_eq_true hn
      obtain ⟨w', hr, hk⟩ := Sts_spec (P := P) _ _ _ _ _ h
      refine ⟨w', ?_, hk⟩
      have hn' : v.cells.size = n := by simpa using hn
      simp [storeVar, run_sizeOf hs, hn', hr]
    · exact h.elim
  · exact h.elim
theorem Pn_spec {p : Option Addr} {K : Addr → Prop} (h : Pn p K) : ∃ a, p = some a ∧ K a := by
  cases p with
  | none => exact h.elim
  | some a => exact ⟨a, rfl, h⟩
theorem ckBool_spec {b : Bool} {X : Prop} (h : ckBool b X) : b = true ∧ X := by
  cases b with
  | false => exact h.elim
  | true => exact ⟨rfl, h⟩
end
section
variable {P : Program} {w : World}
theorem equalIn_bool {t : TypeId} (hu : P.underlying t = some .bool) (a b : Bool) (d : Nat) : (Op.equalIn (d + 1) t (.bool a) (.bool b)).run P w = .ok (a == b) w := by
  simp only [Op.equalIn, Sem.run_bind, run_underlying hu, Result.andThen_ok, Sem.run_pure]
theorem equalIn_nil {t e : TypeId} (hu : P.underlying t = some (.pointer e)) (p : Option Addr) (d : Nat) : (Op.equalIn (d + 1) t (.pointer p) (.pointer none)).run P w = .ok p.isNone w := by
  cases p <;> simp only [Op.equalIn, Sem.run_bind, run_underlying hu, Result.andThen_ok, Sem.run_pure] <;> rfl
theorem equalIn_nils {t e : TypeId} (hu : P.underlying t = some (.slice e)) (p : Option Addr) (l c l' c' d : Nat) : (Op.equalIn (d + 1) t (.slice p l c) (.slice none l' c')).run P w = .ok p.isNone w := by
  cases p <;> simp only [Op.equalIn, Sem.run_bind, run_underlying hu, Result.andThen_ok, Sem.run_pure] <;> rfl
theorem equal_bool {t : TypeId} (hu : P.underlying t = some .bool) (a b : Bool) : (Op.equal t (.bool a) (.bool b)).run P w = .ok (a == b) w := equalIn_bool hu a b 9999
theorem equal_nil {t e : TypeId} (hu : P.underlying t = some (.pointer e)) (p : Option Addr) : (Op.equal t (.pointer p) (.pointer none)).run P w = .ok p.isNone w := equalIn_nil hu p 9999
theorem equal_nils {t e : TypeId} (hu : P.underlying t = some (.slice e)) (p : Option Addr) (l c l' c' : Nat) : (Op.equal t (.slice p l c) (.slice none l' c')).run P w = .ok p.isNone w := equalIn_nils hu p l c l' c' 9999
theorem run_part1 {e : TypeId} {k : IntKind} {xs : Array Value} {v : Value} {i : Nat} (hu : P.underlying e = some (.int k)) (hx : xs[i]? = some v) : (part e xs i).run P w = .ok v w := by
  have h1 : (isAgg e).run P w = .ok false w := by simp [isAgg, run_underlying hu]
  unfold part
  rw [Sem.run_bind, h1, Result.andThen_ok]
  simp [hx]
theorem equalIn_int1 {e : TypeId} {k : IntKind} (hu : P.underlying e = some (.int k)) (a b : Int) (d : Nat) : (Op.equalIn (d + 1) e (.int k a) (.int k b)).run P w = .ok (a == b) w := by
  simp only [Op.equalIn, Sem.run_bind, run_underlying hu, Result.andThen_ok, if_true, Sem.run_pure]
theorem equal_arr3 {t e : TypeId} {xs ys : Array Value} {a0 a1 a2 b0 b1 b2 : Int} (hx : xs.toList = [.int .i64 a0, .int .i64 a1, .int .i64 a2]) (hy : ys.toList = [.int .i64 b0, .int .i64 b1, .int .i64 b2]) (hu : P.underlying t = some (.array 3 e)) (he : P.underlying e = some (.int .i64)) (hs : sizeQ P e = some 1) :
    (Op.equal t (.agg xs) (.agg ys)).run P w = .ok (a0 == b0 && (a1 == b1 && a2 == b2)) w := by
  have hx' : xs = #[.int .i64 a0, .int .i64 a1, .int .i64 a2] := by rw [← hx]
  have hy' : ys = #[.int .i64 b0, .int .i64 b1, .int .i64 b2] := by rw [← hy]
  subst hx' hy'
  show (Op.equalIn (9999 + 1) t _ _).run P w = _
  have q : ∀ a b : Int, (Op.equalIn 9999 e (.int .i64 a) (.int .i64 b)).run P w = .ok (a == b) w := fun a b => equalIn_int1 he a b 9998
  generalize (9999 : Nat) = d at q ⊢
  have p0 : ∀ {v0 v1 v2 : Value} {i : Nat} {v : Value}, [v0, v1, v2][i]? = some v → (part e #[v0, v1, v2] i).run P w = .ok v w := fun {v0 v1 v2 i v} hv => run_part1 he (by simpa using hv)
  simp only [Op.equalIn, Sem.run_bind, run_underlying hu, Result.andThen_ok, run_sizeOf hs, Std.Legacy.Range.forIn_eq_forIn_range', Std.Legacy.Range.size, Nat.mul_one]
  rw [show List.range' 0 ((3 - 0 + 1 - 1) / 1) = [0, 1, 2] from rfl]
  have s0 := @p0 (.int .i64 a0) (.int .i64 a1) (.int .i64 a2) 0 _ rfl
  have s1 := @p0 (.int .i64 a0) (.int .i64 a1) (.int .i64 a2) 1 _ rfl
  have s2 := @p0 (.int .i64 a0) (.int .i64 a1) (.int .i64 a2) 2 _ rfl
  have r0 := @p0 (.int .i64 b0) (.int .i64 b1) (.int .i64 b2) 0 _ rfl
  have r1 := @p0 (.int .i64 b0) (.int .i64 b1) (.int .i64 b2) 1 _ rfl
  have r2 := @p0 (.int .i64 b0) (.int .i64 b1) (.int .i64 b2) 2 _ rfl
  cases e0 : (a0 == b0) with
  | false => simp [List.forIn_cons, Sem.run_bind, s0, r0, q, e0]
  | true =>
    cases e1 : (a1 == b1) with
    | false => simp [List.forIn_cons, Sem.run_bind, s0, r0, s1, r1, q, e0, e1]
    | true =>
      cases e2 : (a2 == b2) with
      | false => simp [List.forIn_cons, Sem.run_bind, s0, r0, s1, r1, s2, r2, q, e0, e1, e2]
      | true => simp [List.forIn_cons, Sem.run_bind, s0, r0, s1, r1, s2, r2, q, e0, e1, e2]
theorem intV_run {op : BinOp} {t : TypeId} {x y : Operand} {k : IntKind} {a b : Int} {K : Value → Prop} (h1 : op ≠ .shl) (h2 : op ≠ .shr) (h : intV op k a b K) :
    ∃ v, (∀ w : World, (do eqGuard op t x y (.int k a) (.int k b); binOp op t (.int k a) (.int k b)).run P w = .ok v w) ∧ K v := by
  cases op
  case shl => exact (h1 rfl).elim
  case shr => exact (h2 rfl).elim
  case quo => obtain ⟨h0, hk⟩ := h; exact ⟨_, fun w => by simp [eqGuard, binOp, Op.intDiv, h0], hk⟩
  case rem => obtain ⟨h0, hk⟩ := h; exact ⟨_, fun w => by simp [eqGuard, binOp, Op.intDiv, h0], hk⟩
  all_goals first
    | exact h.elim
    | exact ⟨_, fun w => by simp [eqGuard, binOp, Op.intArith, Op.intBits, Op.intCmp], h⟩
theorem binV_run {op : BinOp} {t : TypeId} {x y : Operand} {a b : Value} {K : Value → Prop} (h : binV P op t a b K) :
    ∃ v, (∀ w : World, (do eqGuard op t x y a b; binOp op t a b).run P w = .ok v w) ∧ K v := by
  unfold binV at h
  split at h
  · obtain ⟨h0, hk⟩ := h
    refine ⟨_, fun w => ?_, hk⟩
    have : ¬ (_ : Int) < 0 := Int.not_lt.2 h0
    simp [eqGuard, binOp, Op.shift, this]
  · obtain ⟨h0, hk⟩ := h
    refine ⟨_, fun w => ?_, hk⟩
    have : ¬ (_ : Int) < 0 := Int.not_lt.2 h0
    simp [eqGuard, binOp, Op.shift, this]
  · rename_i k a k' b hs1 hs2
    obtain ⟨hk, hv⟩ := ckBool_spec h
    have hk : k = k' := by simpa using hk
    subst hk
    exact intV_run hs1 hs2 hv
  · obtain ⟨h0, hk⟩ := h
    refine ⟨_, fun w => ?_, hk⟩
    have h1 : ¬ (9223372036854775807 : Int) < ((_ + _ : Nat) : Int) := Int.not_lt.2 h0
    simp [eqGuard, binOp, Op.stringOp, IntKind.max, IntKind.signed, IntKind.bits]
    omega
  · exact ⟨_, fun w => by simp [eqGuard, binOp, Op.stringOp], h⟩
  · exact ⟨_, fun w => by simp [eqGuard, binOp, Op.stringOp], h⟩
  · exact ⟨_, fun w => by simp [eqGuard, binOp, Op.stringOp], h⟩
  · exact ⟨_, fun w => by simp [eqGuard, binOp, Op.stringOp], h⟩
  · exact ⟨_, fun w => by simp [eqGuard, binOp, Op.stringOp], h⟩
  · exact ⟨_, fun w => by simp [eqGuard, binOp, Op.stringOp], h⟩
  · split at h
    · rename_i hu; exact ⟨_, fun w => by simp [eqGuard, binOp, equal_bool hu], h⟩
    · exact h.elim
  · split at h
    · rename_i hu; exact ⟨_, fun w => by simp [eqGuard, binOp, equal_bool hu], h⟩
    · exact h.elim
  · rename_i p
    split at h
    · rename_i hu; cases p <;> exact ⟨_, fun w => by simp [eqGuard, binOp, equal_nil hu], h⟩
    · exact h.elim
  · rename_i p
    split at h
    · rename_i hu; cases p <;> exact ⟨_, fun w => by simp [eqGuard, binOp, equal_nil hu], h⟩
    · exact h.elim
  · rename_i p _ _ _ _
    split at h
    · rename_i hu; cases p <;> exact ⟨_, fun w => by simp [eqGuard, binOp, equal_nils hu], h⟩
    · exact h.elim
  · rename_i p _ _ _ _
    split at h
    · rename_i hu; cases p <;> exact ⟨_, fun w => by simp [eqGuard, binOp, equal_nils hu], h⟩
    · exact h.elim
  · rename_i xs ys
    unfold arr3V at h
    split at h
    · rename_i hx hy
      split at h
      · rename_i hu
        split at h
        · rename_i he hs
          obtain ⟨hg, hk⟩ := ckBool_spec h
          have hg' : P.eqGuardType P.depth t = false := by simpa using hg
          exact ⟨_, fun w => by simp [eqGuard, binOp, hg', equal_arr3 hx hy hu he hs], hk⟩
        · exact h.elim
      · exact h.elim
    · exact h.elim
  · exact h.elim

theorem unV_run {op : UnOp} {x : Value} {K : Value → Prop} (h : unV op x K) : ∃ v, (∀ w : World, (Op.unary op x).run P w = .ok v w) ∧ K v := by
  unfold unV at h
  split at h
  · exact ⟨_, fun w => by simp [Op.unary], h⟩
  · exact ⟨_, fun w => by simp [Op.unary, Op.intArith], h⟩
  · exact ⟨_, fun w => by simp [Op.unary, Op.intBits], h⟩
  · exact h.elim

theorem grownCap_le (w : World) (n o : Nat) (e : TypeId) (h : n ≤ 9223372036854775807) : grownCap w n o e ≤ 9223372036854775807 := by
  unfold grownCap
  show n + _ % (2 ^ 63 - n) ≤ _
  have h1 : 0 < 2 ^ 63 - n := by omega
  have h2 := Nat.mod_lt (w.tape w.drawn (.appendCap n o e)) h1
  omega
theorem run_bytes {a : Addr} {l c : Nat} {s : ByteArray} (hl : s.size = l) (hc : CellsAt w (some a) (bytesV s.data.toList)) :
    (Conv.bytesToString (.slice (some a) l c)).run P w = .ok (.string s) w := by
  have hlen : (bytesV s.data.toList).length = l := by simp [bytesV, ← hl]
  have h1 := run_loadCells_list (P := P) w a (bytesV s.data.toList) hc
  rw [hlen] at h1
  have h2 : (bytesV s.data.toList) = (s.data.toList.map fun b => ((b.toNat : Nat) : Int)).map (Value.int .u8) := by
    simp [bytesV]
  rw [h2] at h1
  rw [run_bytesToString (P := P) w a l c _ h1]
  congr 2
  have key : ∀ (bs : List UInt8) (r : ByteArray), (bs.map fun b => ((b.toNat : Nat) : Int)).foldl (fun r n => r.push (UInt8.ofNat n.toNat)) r = ⟨r.data ++ bs.toArray⟩ := by
    intro bs
    induction bs with
    | nil => intro r; simp
    | cons b bs ih =>
      intro r
      simp only [List.map_cons, List.foldl_cons, ih]
      simp [ByteArray.push]
  rw [key]
  cases s; simp [ByteArray.empty, ByteArray.emptyWithCapacity]; rfl

theorem convV_run {src dst : TypeId} {x : Value} {K : Value → World → Prop} (h : convV P src dst x w K) : ∃ v w', (convert src dst x).run P w = .ok v w' ∧ K v w' := by
  unfold convV at h
  split at h
  · rename_i h1 h2
    exact ⟨_, _, by simp [convert, run_underlying h1, run_underlying h2, Conv.intToInt], h⟩
  · rename_i e s h1 h2
    split at h
    · rename_i h3
      have hcap := grownCap_ge w s.size 0 e
      have h4 := h (grownCap w s.size 0 e) hcap (grownCap_le w s.size 0 e)
      refine ⟨_, _, ?_, h4⟩
      rw [run_bytes_of_string w src dst e s h1 h2 h3]
      have e2 : bytesRow s (grownCap w s.size 0 e) = (bytesV s.data.toList).toArray ++ Array.replicate (grownCap w s.size 0 e - s.size) (.int .u8 0) := by
        apply Array.ext'; simp [bytesRow, bytesV]
      have e3 : ((bytesV s.data.toList).toArray ++ Array.replicate (grownCap w s.size 0 e - s.size) (Value.int .u8 0)).size = grownCap w s.size 0 e := by
        simp [bytesV]; omega
      rw [e2, e3]; rfl
    · exact h.elim
  · rename_i e b l c h1 h2
    split at h
    · rename_i h3
      cases b with
      | none => exact ⟨_, _, by rw [run_convert_bytes_string w src dst e none l c h1 h3 h2]; simp [Conv.bytesToString], h⟩
      | some a =>
        obtain ⟨s, hs, hc, hk⟩ := h
        exact ⟨_, _, by rw [run_convert_bytes_string w src dst e (some a) l c h1 h3 h2]; exact run_bytes hs hc, hk⟩
    · exact h.elim
  · exact h.elim

theorem putCells_length : ∀ (vs : List Value) (cs : List Value) (i : Nat), (putCells cs i vs).length = cs.length
  | [], cs, i => rfl
  | v :: vs, cs, i => by simp [putCells, putCells_length vs]
theorem putCells_foldl : ∀ (vs : List Value) (cs : Array Value) (off k : Nat),
    ((vs.zipIdx k).foldl (fun cs (p : Value × Nat) => cs.setIfInBounds (off + p.2) p.1) cs).toList = putCells cs.toList (off + k) vs
  | [], cs, off, k => by simp [putCells]
  | v :: vs, cs, off, k => by
    simp only [List.zipIdx_cons, List.foldl_cons, putCells]
    rw [putCells_foldl vs _ off (k + 1)]
    simp [Nat.add_assoc]
theorem fillL_spec (place : Nat → Option (Nat × Nat)) : ∀ (parts : List (Nat × Value)) (cells : Array Value) (r : List Value), fillL place cells.toList parts = some r → Instr.fill place cells parts = some r.toArray
  | [], cells, r, h => by simp [fillL] at h; simp [Instr.fill, ← h]
  | (i, v) :: rest, cells, r, h => by
    simp only [fillL] at h
    simp only [Instr.fill]
    cases hp : place i with
    | none => simp [hp] at h
    | some q =>
      obtain ⟨off, size⟩ := q
      simp only [hp] at h
      split at h
      · rename_i hc
        simp only [Bool.and_eq_true] at hc
        have h1 : v.cells.size = size := by simpa using Nat.eq_of_beq_eq_true hc.1
        have h2 : off + v.cells.size ≤ cells.size := by simpa using Nat.le_of_ble_eq_true hc.2
        have hif : (decide (v.cells.size ≠ size) || decide (off + v.cells.size > cells.size)) = false := by simp [h1]; omega
        simp only [hif, Bool.false_eq_true, if_false]
        apply fillL_spec place rest
        rw [← h]
        congr 1
        rw [← Array.foldl_toList, Array.toList_zipIdx]
        have := putCells_foldl v.cells.toList cells off 0
        simpa using this
      · cases h
theorem run_places {fs : List Field} : ∀ {ps : List (Nat × Nat)}, placesOf P fs = some ps → (fs.mapM fun f => do pure (f.offset, ← sizeOf f.type) : Sem (List (Nat × Nat))).run P w = .ok ps w := by
  induction fs with
  | nil => intro ps h; simp [placesOf] at h; subst h; simp
  | cons f fs ih =>
    intro ps h
    simp only [placesOf] at h
    split at h
    · rename_i n r h1 h2
      simp only [Option.some.injEq] at h
      subst h
      rw [List.mapM_cons]
      simp only [Sem.run_bind, run_sizeOf h1, Result.andThen_ok, Sem.run_pure, ih h2]
    · cases h
theorem buildV_run {t : TypeId} {parts : Array (Nat × Value)} {v : Value} (h : buildV P t parts.toList = some v) : (Instr.build t parts).run P w = .ok v w := by
  unfold buildV at h
  split at h
  · rename_i z fields hz hu
    split at h
    · rename_i ps hps
      split at h
      · rename_i cs hf
        simp only [Option.some.injEq] at h
        subst h
        have hf' := fillL_spec (fun i => ps[i]?) parts.toList z.cells cs hf
        have hm : (fields.mapM fun f => do pure (f.offset, ← sizeOf f.type) : Sem (Array (Nat × Nat))).run P w = .ok ps.toArray w := by
          rw [Array.mapM_eq_mapM_toList]
          simp only [Sem.run_map, run_places hps, Result.andThen_ok]
        have hq : (fun i : Nat => ps.toArray[i]?) = fun i : Nat => ps[i]? := by funext i; simp
        simp only [Instr.build, Sem.run_bind, run_zeroValue hz, run_underlying hu, Result.andThen_ok]
        simp only [hm, Result.andThen_ok, hq, hf', Sem.run_pure]
      · cases h
    · cases h
  · rename_i z n e hz hu
    split at h
    · rename_i k hk
      split at h
      · rename_i cs hf
        simp only [Option.some.injEq] at h
        subst h
        have hf' := fillL_spec _ parts.toList z.cells cs hf
        simp [Instr.build, run_zeroValue hz, run_underlying hu, run_sizeOf hk, hf']
      · cases h
    · cases h
  · cases h

theorem repCells_eq (z : List Value) (n : Nat) (hn : z.length = n) : ∀ len, ((List.range (len * n)).map fun i => z[i % n]?.getD default) = repCells len z := by
  intro len
  induction len with
  | zero => simp [repCells]
  | succ len ih =>
    have e : (len + 1) * n = n + len * n := by rw [Nat.succ_mul, Nat.add_comm]
    rw [e, List.range_add, List.map_append, repCells]
    congr 1
    · apply List.ext_getElem?
      intro i
      by_cases hi : i < n
      · simp [hi, Nat.mod_eq_of_lt hi, hn]
      · simp [List.getElem?_eq_none (show z.length ≤ i by omega)]; omega
    · rw [← ih, List.map_map]
      apply List.map_congr_left
      intro i _
      simp
theorem buildSliceV_run {t : TypeId} {len : Nat} {parts : Array (Nat × Value)} {e : TypeId} {cs : List Value} (h : buildSliceV P t len parts.toList = some (e, cs)) :
    (Instr.buildSlice t len parts).run P w = .ok (.slice (some ⟨w.heap.size, 0, none⟩) len len) (w.alloc (.cells cs.toArray e)) := by
  unfold buildSliceV at h
  split at h
  · rename_i e' hu
    split at h
    · rename_i z n hz hs
      split at h
      · rename_i hc
        simp only [Bool.and_eq_true] at hc
        obtain ⟨⟨h1, h2⟩, h3⟩ := hc
        have h1 := Nat.le_of_ble_eq_true h1
        have h2 : z.cells.toList.length = n := Nat.eq_of_beq_eq_true h2
        have h3 : 0 < len * n := Nat.le_of_ble_eq_true h3
        split at h
        · rename_i cs' hf
          simp only [Option.some.injEq, Prod.mk.injEq] at h
          obtain ⟨rfl, rfl⟩ := h
          have hl1 : ¬ (len * n > 2 ^ 24) := by omega
          have hl2 : ¬ (len * n = 0) := by omega
          have hz2 : z.cells.size = n := by simpa using h2
          have hrep : ((Array.range (len * n)).map (z.cells[· % z.cells.size]!)) = (repCells len z.cells.toList).toArray := by
            apply Array.ext'
            rw [Array.toList_map, Array.toList_range, hz2, ← repCells_eq _ n h2 len]
            apply List.map_congr_left
            intro i _
            simp [getElem!_def]
            cases z.cells[i % n]? <;> simp
          have hf' := fillL_spec (fun i => some (i * n, n)) parts.toList (repCells len z.cells.toList).toArray cs' hf
          simp only [Instr.buildSlice, Sem.run_bind, run_underlying hu, Result.andThen_ok, run_sizeOf hs, Sem.run_ite, hl1, hl2, if_false, Sem.run_pure, run_zeroValue hz]
          rw [hrep, hf']
          simp [newRow]
        · cases h
      · split at h
        · rename_i hp
          simp only [Option.some.injEq, Prod.mk.injEq] at h
          obtain ⟨rfl, rfl⟩ := h
          have hp' : parts = #[] := by
            apply Array.ext'
            assumption
          subst hp'
          have hl1 : ¬ (0 * n > 2 ^ 24) := by omega
          have hl2 : 0 * n = 0 := by omega
          simp only [Instr.buildSlice, Sem.run_bind, run_underlying hu, Result.andThen_ok, run_sizeOf hs, Sem.run_ite, hl2, if_true, Sem.run_pure]
          have e0 : Array.range 0 = #[] := by
            apply Array.ext'
            simp
          simp [Instr.fill, newRow, e0]
        · cases h
    · cases h
  · cases h
theorem Make_run {t e : TypeId} {i : TypeInfo} {z : Value} {kl kc : IntKind} {l c : Int} {K : Nat → World → Prop} (hu : P.underlying t = some (.slice e)) (hi : P.info? e = some i) (hz : i.zero = some z)
    (h : Make e z i.size i.bytes l c w K) : ∃ w', (Instr.makeSlice t (.int kl l) (.int kc c)).run P w = .ok (.slice (some ⟨w.heap.size, 0, none⟩) l.toNat c.toNat) w' ∧ K w.heap.size w' := by
  obtain ⟨⟨h0, h1, h2, h3⟩, hk⟩ := h
  exact ⟨_, run_make w t e i z hu hi hz kl kc l c h0 h1 h2 h3, hk⟩
theorem boundC_spec {v : Option Value} {d : Nat} {top : Int} {K : Int → Prop} (h : boundC v d top K) :
    (v = none ∧ K (d : Int)) ∨ ∃ k n, v = some (.int k n) ∧ 0 ≤ n ∧ n ≤ top ∧ K n := by
  unfold boundC at h
  split at h
  · exact .inl ⟨rfl, h⟩
  · rename_i k n; exact .inr ⟨k, n, rfl, h.1.1, h.1.2, h.2⟩
  · exact h.elim
theorem run_bound {k : IntKind} {i m : Int} {y : Nat} {code : BoundsCode} (hm : (y : Int) = m) (h0 : 0 ≤ i) (h1 : i ≤ m) : (Instr.sliceBound (.int k i) y code).run P w = .ok i.toNat w :=
  run_sliceBound w k i y code h0 (by omega)
theorem sliceV_spec {isS : Bool} {len cap : Nat} {lo hi mx : Option Value} {K : Int → Int → Int → Prop} (h : sliceV len cap lo hi mx K) :
    ∃ l h' m, (∀ w : World, (Instr.sliceBounds isS len cap lo hi mx).run P w = .ok (l.toNat, h'.toNat, m.toNat) w) ∧ K l h' m := by
  unfold sliceV at h
  split at h
  · exact h.elim
  · rename_i hne
    rcases boundC_spec h with ⟨rfl, q⟩ | ⟨k1, m, rfl, hm0, hm1, q⟩
    · rcases boundC_spec q with ⟨rfl, q'⟩ | ⟨k2, x, rfl, hx0, hx1, q'⟩
      · rcases boundC_spec q' with ⟨rfl, q''⟩ | ⟨k3, l, rfl, hl0, hl1, q''⟩
        · exact ⟨_, _, _, fun w => by simp [Instr.sliceBounds], q''⟩
        · refine ⟨_, _, _, fun w => ?_, q''⟩
          simp [Instr.sliceBounds, run_bound (w := w) (P := P) (k := k3) (i := l) (m := (len : Int)) (y := len) rfl hl0 hl1]
      · rcases boundC_spec q' with ⟨rfl, q''⟩ | ⟨k3, l, rfl, hl0, hl1, q''⟩
        · refine ⟨_, _, _, fun w => ?_, q''⟩
          simp [Instr.sliceBounds, run_bound (w := w) (P := P) (k := k2) (i := x) (m := (cap : Int)) (y := cap) rfl hx0 hx1]
        · refine ⟨_, _, _, fun w => ?_, q''⟩
          simp [Instr.sliceBounds, run_bound (w := w) (P := P) (k := k2) (i := x) (m := (cap : Int)) (y := cap) rfl hx0 hx1, run_bound (w := w) (P := P) (k := k3) (i := l) (m := x) (y := x.toNat) (by omega) hl0 hl1]
    · rcases boundC_spec q with ⟨rfl, q'⟩ | ⟨k2, x, rfl, hx0, hx1, q'⟩
      · exact (hne _ rfl rfl).elim
      · rcases boundC_spec q' with ⟨rfl, q''⟩ | ⟨k3, l, rfl, hl0, hl1, q''⟩
        · refine ⟨_, _, _, fun w => ?_, q''⟩
          simp [Instr.sliceBounds, run_bound (w := w) (P := P) (k := k1) (i := m) (m := (cap : Int)) (y := cap) rfl hm0 hm1, run_bound (w := w) (P := P) (k := k2) (i := x) (m := m) (y := m.toNat) (by omega) hx0 hx1]
        · refine ⟨_, _, _, fun w => ?_, q''⟩
          simp [Instr.sliceBounds, run_bound (w := w) (P := P) (k := k1) (i := m) (m := (cap : Int)) (y := cap) rfl hm0 hm1, run_bound (w := w) (P := P) (k := k2) (i := x) (m := m) (y := m.toNat) (by omega) hx0 hx1, run_bound (w := w) (P := P) (k := k3) (i := l) (m := x) (y := x.toNat) (by omega) hl0 hl1]
theorem CellsAt_first {b : Option Addr} {vs : List Value} {n sz len cap : Nat} (hl : vs.length = n * sz) (h : CellsAt w b vs) :
    (Builtin.firstCells sz n (.slice b len cap)).run P w = .ok vs.toArray w := by
  cases b with
  | none => have : vs = [] := h; subst this; exact run_firstCells_none w sz n len cap
  | some a => exact run_firstCells_some w sz n a len cap vs hl h
theorem Append_run {t ty e : TypeId} {i : TypeInfo} {z : Value} {b xb : Option Addr} {l c n c2 : Nat} {K : Option Addr → Nat → World → Prop} (hu : P.underlying t = some (.slice e)) (hi : P.info? e = some i) (hz : i.zero = some z)
    (h : Append e z i.size i.bytes b l c xb n w K) :
    ∃ b' c' w', (Builtin.append_ #[t, t] ty #[.slice b l c, .slice xb n c2]).run P w = .ok (.slice b' (l + n) c') w' ∧ K b' c' w' := by
  obtain ⟨news, hl, hc, h1, h2⟩ := h
  have hf : ∀ w1 : World, CellsAt w1 xb news → (Builtin.firstCells i.size n (.slice xb n c2)).run P w1 = .ok news.toArray w1 := fun w1 h => CellsAt_first (w := w1) hl h
  by_cases hroom : l + n ≤ c
  · have h3 := h1 hroom
    cases b with
    | none =>
      exact ⟨_, _, _, by simp [Builtin.append_, run_underlying hu, sizeOf, typeInfo, hi, Builtin.lenOf, hroom, hf w hc], h3⟩
    | some a =>
      obtain ⟨w', hr, hk⟩ := Sts_spec (P := P) _ _ _ _ _ h3
      refine ⟨_, _, w', ?_, hk⟩
      simp [Builtin.append_, run_underlying hu, sizeOf, typeInfo, hi, Builtin.lenOf, hroom, hf w hc, hr]
  · obtain ⟨h63, hfit, olds, hol, hoc, hk⟩ := h2 (by omega)
    have hk1 := hk (grownCap w (l + n) c e) (grownCap_ge w (l + n) c e) (by have := grownCap_le_maxLen w (l + n) c e (by unfold maxLen; omega); unfold maxLen at this; omega)
    refine ⟨_, _, _, ?_, hk1⟩
    have h63' : ¬ (9223372036854775807 < ((l : Int) + (n : Int))) := by omega
    have h48' : ¬ (281474976710656 < Builtin.nextslicecap (l + n) c * i.bytes) := by omega
    have hfn := hf w.drew (by cases xb <;> exact hc)
    have hfo : (Builtin.firstCells i.size l (.slice b l c)).run P w.drew = .ok olds.toArray w.drew := CellsAt_first (w := w.drew) hol (by cases b <;> exact hoc)
    simp [Builtin.append_, run_underlying hu, sizeOf, typeInfo, zeroValue, hi, hz, Builtin.lenOf, hroom, h63', h48', Question.forced, hfn, hfo, newRow, grownCap]
    congr 2
    apply Array.ext'
    simp [List.append_assoc]
theorem Copy_run {t ty e : TypeId} {i : TypeInfo} {b xb : Option Addr} {l c n c2 : Nat} {K : Int → World → Prop} (hu : P.underlying t = some (.slice e)) (hi : P.info? e = some i)
    (h : Copy i.size b l xb n w K) :
    ∃ m w', (Builtin.copy_ #[t, t] ty #[.slice b l c, .slice xb n c2]).run P w = .ok (.int .i64 m) w' ∧ K m w' := by
  obtain ⟨news, hl, hc, h1⟩ := h
  have hf : (Builtin.firstCells i.size (Nat.min n l) (.slice xb n c2)).run P w = .ok news.toArray w := CellsAt_first hl hc
  cases b with
  | none => exact ⟨_, _, by simp [Builtin.copy_, run_underlying hu, sizeOf, typeInfo, hi, Builtin.lenOf, hf, goInt], h1⟩
  | some a =>
    obtain ⟨w', hr, hk⟩ := Sts_spec (P := P) _ _ _ _ _ h1
    exact ⟨_, w', by simp [Builtin.copy_, run_underlying hu, sizeOf, typeInfo, hi, Builtin.lenOf, hf, goInt, hr], hk⟩

theorem execOp_value {s : Sem Value} {K : Value → World → Prop} (h : ∃ v w', s.run P w = .ok v w' ∧ K v w') : runOK P (do pure (.value (← s))) w K := by
  obtain ⟨v, w', hr, hk⟩ := h; exact runOK_value hr hk
theorem callFunc_run {f : FuncId} {args : Array Value} (h : callable P f = true) : (callFunc f args).run P w = .ok (.enter f args) w := by
  unfold callable at h
  split at h
  · rename_i fn hf
    simp only [Bool.and_eq_true, Bool.not_eq_true'] at h
    have hb : fn.body.isNone = false := by cases hb : fn.body <;> simp_all
    simp only [callFunc, Sem.run_bind, run_program, Result.andThen_ok, hf, h.2, hb, Bool.false_eq_true, if_false, Sem.run_pure]
  · cases h
theorem exRes_spec : ∀ {ts : List TypeId} {J : Value → Prop}, exRes P ts J → ∃ v, J v := by
  have hl : ∀ {z : Value} {J : Value → Prop}, exLike z J → ∃ v, J v := by
    intro z J h
    unfold exLike at h
    split at h
    · obtain ⟨_, h⟩ := h; exact ⟨_, h⟩
    · obtain ⟨_, h⟩ := h; exact ⟨_, h⟩
    · obtain ⟨_, h⟩ := h; exact ⟨_, h⟩
    · obtain ⟨_, h⟩ := h; exact ⟨_, h⟩
    · obtain ⟨_, _, _, h⟩ := h; exact ⟨_, h⟩
    · exact h.elim
  have hls : ∀ {zs : List Value} {J : List Value → Prop}, exLikes zs J → ∃ v, J v := by
    intro zs
    induction zs with
    | nil => intro J h; exact ⟨_, h⟩
    | cons z zs ih =>
      intro J h
      obtain ⟨v, h⟩ := hl h
      obtain ⟨vs, h⟩ := ih h
      exact ⟨_, h⟩
  have ht : ∀ {t : TypeId} {J : Value → Prop}, exType P t J → ∃ v, J v := by
    intro t J h
    unfold exType at h
    split at h
    · obtain ⟨vs, h⟩ := hls h; exact ⟨_, h⟩
    · exact hl h
    · exact h.elim
  have hts : ∀ {ts : List TypeId} {J : List Value → Prop}, exTypes P ts J → ∃ v, J v := by
    intro ts
    induction ts with
    | nil => intro J h; exact ⟨_, h⟩
    | cons z zs ih =>
      intro J h
      obtain ⟨v, h⟩ := ht h
      obtain ⟨vs, h⟩ := ih h
      exact ⟨_, h⟩
  intro ts J h
  unfold exRes at h
  split at h
  · exact ht h
  · obtain ⟨vs, h⟩ := hts h; exact ⟨_, h⟩
theorem callV_run {ρ : Operand → Value} {c : Call} {ty : TypeId} {K : Value → World → Prop} (hρ : ∀ f, ρ (.func f) = .func (.func f) #[] #[]) (h : callV P ρ c w K) :
    runOK P (do let d ← resolve ρ c ty; invoke d.target d.args) w K := by
  obtain ⟨callee, ⟨args⟩, ⟨argTypes⟩⟩ := c
  unfold callV at h
  simp only at h
  split at h
  · obtain ⟨hc, hcall⟩ := ckBool_spec h
    simp only [runOK, resolve, hρ, Deferred.ofValue, Sem.run_bind, Sem.run_pure, Result.andThen_ok, invoke, Array.empty_append, Array.append_empty, callFunc_run hc]
    simp only [List.map_toArray]
    exact hcall.mono fun e w' he => by
      obtain ⟨v, he, hk⟩ := exRes_spec he
      exact ⟨v, he, hk⟩
  · split at h
    · rename_i hu hx
      simp only [runOK, resolve, Sem.run_bind, Sem.run_pure, Result.andThen_ok, invoke, builtin, List.map_toArray, List.map_cons, List.map_nil, hx, Builtin.len_]
      simp [run_underlying hu, goInt]
      exact h
    · rename_i hu hx
      simp only [runOK, resolve, Sem.run_bind, Sem.run_pure, Result.andThen_ok, invoke, builtin, List.map_toArray, List.map_cons, List.map_nil, hx, Builtin.len_]
      simp [run_underlying hu, goInt]
      exact h
    · exact h.elim
  · split at h
    · rename_i hu hx
      simp only [runOK, resolve, Sem.run_bind, Sem.run_pure, Result.andThen_ok, invoke, builtin, List.map_toArray, List.map_cons, List.map_nil, hx, Builtin.cap_]
      simp [run_underlying hu, goInt]
      exact h
    · exact h.elim
  · split at h
    · rename_i hu hx hy
      split at h
      · rename_i hi
        split at h
        · rename_i hz
          rename_i c2 _ _ _ _
          obtain ⟨ht, hv⟩ := ckBool_spec h
          have ht := Nat.eq_of_beq_eq_true ht
          subst ht
          obtain ⟨b', c', w', hr, hk⟩ := Append_run (ty := ty) (c2 := c2) hu hi hz hv
          simp only [runOK, resolve, Sem.run_bind, Sem.run_pure, Result.andThen_ok, invoke, builtin, List.map_toArray, List.map_cons, List.map_nil, hx, hy, hr]
          exact hk
        · exact h.elim
      · exact h.elim
    · exact h.elim
  · split at h
    · rename_i hu hx hy
      split at h
      · rename_i hi
        rename_i c1 _ _ c2 _ _
        obtain ⟨ht, hv⟩ := ckBool_spec h
        have ht := Nat.eq_of_beq_eq_true ht
        subst ht
        obtain ⟨m, w', hr, hk⟩ := Copy_run (ty := ty) (c := c1) (c2 := c2) hu hi hv
        simp only [runOK, resolve, Sem.run_bind, Sem.run_pure, Result.andThen_ok, invoke, builtin, List.map_toArray, List.map_cons, List.map_nil, hx, hy, hr]
        exact hk
      · exact h.elim
    · exact h.elim
  · exact h.elim
end
end Go.Vc
