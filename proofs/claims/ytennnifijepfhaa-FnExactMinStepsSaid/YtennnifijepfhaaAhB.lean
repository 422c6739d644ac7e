/- The abstract steps: one for each operation, computable over the frame and the abstract heap. -/
import Derived.Test.YtennnifijepfhaaAhA
namespace Go.AH
open Go Go.RowKit

inductive AOpd where
  | t (n : Nat)
  | c (v : Value)
def AOpd.ev (fr : Nat → Value) : AOpd → Value
  | .t n => fr n
  | .c v => v

/-- A value of one cell that may be stored. -/
def one : Value → Bool
  | .bool _ | .int _ _ | .string _ | .pointer _ | .slice _ _ _ | .func _ _ _ => true
  | _ => false
def vcells : Value → List Value
  | .agg cs => cs.toList
  | v => [v]
def okCells (v : Value) : Bool := (vcells v).all one
def readCells (l : List Value) (o n : Nat) : Option (List Value) := if o + n ≤ l.length then some ((l.drop o).take n) else none
/-- Parts laid into cells. -/
def fillA : List Value → List (Nat × Nat × Value) → Option (List Value)
  | cs, [] => some cs
  | cs, (off, size, v) :: ps => if (vcells v).length = size ∧ okCells v = true ∧ off + size ≤ cs.length then fillA (setCells cs off (vcells v)) ps else none
def cellEq : Value → Value → Option Bool
  | .int k a, .int k' b => if k = k' then some (a == b) else none
  | _, _ => none
def cellsEq : List Value → List Value → Option Bool
  | [], [] => some true
  | x :: xs, y :: ys => match cellEq x y, cellsEq xs ys with
    | some a, some b => some (a && b)
    | _, _ => none
  | _, _ => none
def isNeq (op : BinOp) : Bool := match op with
  | .neq => true
  | _ => false
def arithA (op : BinOp) (k : IntKind) (x y : Int) : Option Value :=
  match op with
  | .add => some (.int k (k.wrap (x + y)))
  | .sub => some (.int k (k.wrap (x - y)))
  | .mul => some (.int k (k.wrap (x * y)))
  | .quo => if y = 0 then none else some (.int k (k.wrap (x.tdiv y)))
  | .rem => if y = 0 then none else some (.int k (x.tmod y))
  | .and => some (.int k (Go.bits .and k x y))
  | .or => some (.int k (Go.bits .or k x y))
  | .xor => some (.int k (Go.bits .xor k x y))
  | .andNot => some (.int k (Go.bits .andNot k x y))
  | .eql => some (.bool (x == y))
  | .neq => some (.bool (x != y))
  | .lss => some (.bool (x < y))
  | .leq => some (.bool (x ≤ y))
  | .gtr => some (.bool (x > y))
  | .geq => some (.bool (x ≥ y))
  | _ => none
def shiftA (op : BinOp) (k : IntKind) (x y : Int) : Option Value :=
  if y < 0 then none else
  match op with
  | .shl => some (.int k (k.wrap (x * 2 ^ (min y.toNat k.bits))))
  | .shr => some (.int k (x.fdiv (2 ^ (min y.toNat k.bits))))
  | _ => none
def optInt : Option Value → Option (Option Int)
  | none => some none
  | some (.int _ n) => some (some n)
  | some _ => none

inductive AOp where
  | mov (x : AOpd)
  | pick (c a b : AOpd)
  | alloc (z : List Value)
  | box (x : AOpd)
  | build (z : List Value) (ps : List (Nat × Nat × AOpd))
  | lit (esz len : Nat) (z : List Value) (ps : List (Nat × Nat × AOpd))
  | load (n : Nat) (agg : Bool) (x : AOpd)
  | store (n : Nat) (x v : AOpd)
  | nilck (x : AOpd)
  | bin (op : BinOp) (x y : AOpd)
  | shift (op : BinOp) (x y : AOpd)
  | beq (neg : Bool) (x y : AOpd)
  | aeq (n : Nat) (neg : Bool) (x y : AOpd)
  | un (op : UnOp) (x : AOpd)
  | conv (k : IntKind) (x : AOpd)
  | mk (esz bytes : Nat) (z : List Value) (l c : AOpd)
  | slice (esz : Nat) (x : AOpd) (lo hi mx : Option AOpd)
  | faddr (off : Nat) (x : AOpd)
  | field (off n : Nat) (agg : Bool) (x : AOpd)
  | iaddr (esz : Nat) (x i : AOpd)
  | iaddrA (n esz : Nat) (x i : AOpd)
  | index (n esz : Nat) (agg : Bool) (x i : AOpd)
  | extract (x : AOpd) (i : Nat)
  | len (x : AOpd)
  | mx (isMax : Bool) (x y : AOpd)
  | append (esz bytes : Nat) (s x : AOpd)
  | clear (esz : Nat) (z : List Value) (x : AOpd)
  | snil (neg : Bool) (x : AOpd)
  | mkfn (f : FuncId) (cap : List AOpd)

def psEv (fr : Nat → Value) (ps : List (Nat × Nat × AOpd)) : List (Nat × Nat × Value) := ps.map fun p => (p.1, p.2.1, p.2.2.ev fr)
/-- n copies of the zero cells. -/
def zeroRow (z : List Value) : Nat → List Value
  | 0 => []
  | n + 1 => z ++ zeroRow z n
def capA (c lo : Nat) : Nat := if c = 0 then 0 else c - lo + 1
def partA (cs : List Value) (off n : Nat) (agg : Bool) : Option Value :=
  if agg = true then (readCells cs off n).map (fun l => .agg l.toArray) else cs[off]?
def appendA (esz bytes : Nat) (σ : Heap) : Value → Value → Option (Value × Heap)
  | .slice a len cap, .slice b n _ =>
    if n = 0 then some (.slice a len cap, σ) else
    match b with
    | none => none
    | some b =>
      match readCells (σ.blk b.block).cells b.off (n * esz) with
      | none => none
      | some src =>
        if b.spot = none ∧ src.all one = true ∧ (len + n) * bytes ≤ 140737488355328 ∧ 0 < bytes ∧ 0 < esz then
          if cap = 0 then
            if len = 0 then some (.slice (some ⟨σ.size, 0, none⟩) n n, σ.push ⟨esz, src⟩) else none
          else
            match a with
            | none => none
            | some a =>
              if a.spot = none ∧ σ.base ≤ a.block ∧ (σ.blk a.block).esz = esz ∧ (σ.blk a.block).cells ≠ [] then
                match readCells (σ.blk a.block).cells a.off (len * esz) with
                | none => none
                | some pre => some (.slice (some ⟨σ.size, 0, none⟩) (len + n) (len + n), (σ.put a.block []).push ⟨esz, pre ++ src⟩)
              else none
        else none
  | _, _ => none
def sliceA (σ : Heap) (esz : Nat) (x : Value) (lo hi mx : Option Int) : Option Value :=
  match x with
  | .slice none len cap => if len = 0 ∧ cap = 0 ∧ lo.getD 0 = 0 ∧ hi.getD 0 = 0 ∧ mx.getD 0 = 0 ∧ (mx.isSome = true → hi.isSome = true) then some (.slice none 0 0) else none
  | .slice (some a) len cap =>
    if (mx.isSome = true → hi.isSome = true) ∧ (lo.getD 0 = 0 ∨ (σ.base ≤ a.block → (σ.blk a.block).esz = esz)) ∧ 0 ≤ lo.getD 0 ∧ lo.getD 0 ≤ hi.getD len ∧ hi.getD len ≤ mx.getD len ∧ mx.getD len ≤ len then
      some (.slice (some ⟨a.block, a.off + (lo.getD 0).toNat * esz, none⟩) ((hi.getD len).toNat - (lo.getD 0).toNat)
        (match mx with | some m => m.toNat - (lo.getD 0).toNat | none => capA cap (lo.getD 0).toNat))
    else none
  | _ => none

def AOp.step (fr : Nat → Value) (σ : Heap) : AOp → Option (Value × Heap)
  | .mov x => some (x.ev fr, σ)
  | .pick c a b => match c.ev fr with
    | .bool t => some (if t = true then a.ev fr else b.ev fr, σ)
    | _ => none
  | .alloc z => some (.pointer (some ⟨σ.size, 0, none⟩), σ.push ⟨z.length, z⟩)
  | .box x => if okCells (x.ev fr) = true then some (.pointer (some ⟨σ.size, 0, none⟩), σ.push ⟨(vcells (x.ev fr)).length, vcells (x.ev fr)⟩) else none
  | .build z ps => (fillA z (psEv fr ps)).map fun cs => (.agg cs.toArray, σ)
  | .lit esz ln z ps => (fillA (zeroRow z ln) (psEv fr ps)).map fun cs => (.slice (some ⟨σ.size, 0, none⟩) ln ln, σ.push ⟨esz, cs⟩)
  | .load n agg x => match x.ev fr with
    | .pointer (some a) => if a.spot = none then (partA (σ.blk a.block).cells a.off n agg).map fun v => (v, σ) else none
    | _ => none
  | .store n x v => match x.ev fr with
    | .pointer (some a) =>
      if a.spot = none ∧ σ.base ≤ a.block ∧ (vcells (v.ev fr)).length = n ∧ okCells (v.ev fr) = true ∧ a.off + n ≤ (σ.blk a.block).cells.length ∧ 0 < n then
        some (undef, σ.put a.block (setCells (σ.blk a.block).cells a.off (vcells (v.ev fr))))
      else none
    | _ => none
  | .nilck x => match x.ev fr with
    | .pointer (some a) => some (.pointer (some a), σ)
    | .func f first cs => if first.size = 0 then some (.func f first cs, σ) else none
    | _ => none
  | .bin op x y => match x.ev fr, y.ev fr with
    | .int k a, .int k' b => if k = k' then (arithA op k a b).map fun v => (v, σ) else none
    | _, _ => none
  | .shift op x y => match x.ev fr, y.ev fr with
    | .int k a, .int _ b => (shiftA op k a b).map fun v => (v, σ)
    | _, _ => none
  | .beq neg x y => match x.ev fr, y.ev fr with
    | .bool a, .bool b => some (.bool (if neg = true then a != b else a == b), σ)
    | _, _ => none
  | .aeq n neg x y => match x.ev fr, y.ev fr with
    | .agg a, .agg b => if a.size = n then (cellsEq a.toList b.toList).map fun r => (.bool (if neg = true then !r else r), σ) else none
    | _, _ => none
  | .un op x => match op, x.ev fr with
    | .neg, .int k n => some (.int k (k.wrap (0 - n)), σ)
    | .not, .bool b => some (.bool !b, σ)
    | _, _ => none
  | .conv k x => match x.ev fr with
    | .int _ n => some (.int k (k.wrap n), σ)
    | _ => none
  | .mk esz bytes z l c => match l.ev fr, c.ev fr with
    | .int .i64 n, .int .i64 m => if 0 ≤ n ∧ n ≤ m ∧ m * bytes ≤ 281474976710656 ∧ 0 < bytes then
        some (.slice (some ⟨σ.size, 0, none⟩) n.toNat m.toNat, σ.push ⟨esz, zeroRow z m.toNat⟩) else none
    | _, _ => none
  | .slice esz x lo hi m => match optInt (lo.map (·.ev fr)), optInt (hi.map (·.ev fr)), optInt (m.map (·.ev fr)) with
    | some lo, some hi, some m => (sliceA σ esz (x.ev fr) lo hi m).map fun v => (v, σ)
    | _, _, _ => none
  | .faddr off x => match x.ev fr with
    | .pointer (some a) => if a.spot = none then some (.pointer (some ⟨a.block, a.off + off, none⟩), σ) else none
    | _ => none
  | .field off n agg x => match x.ev fr with
    | .agg cs => (partA cs.toList off n agg).map fun v => (v, σ)
    | _ => none
  | .iaddr esz x i => match x.ev fr, i.ev fr with
    | .slice (some a) ln _, .int _ n => if a.spot = none ∧ 0 ≤ n ∧ n < ln then some (.pointer (some ⟨a.block, a.off + n.toNat * esz, none⟩), σ) else none
    | _, _ => none
  | .iaddrA ln esz x i => match x.ev fr, i.ev fr with
    | .pointer (some a), .int _ n => if a.spot = none ∧ 0 ≤ n ∧ n < ln then some (.pointer (some ⟨a.block, a.off + n.toNat * esz, none⟩), σ) else none
    | _, _ => none
  | .index ln esz agg x i => match x.ev fr, i.ev fr with
    | .agg cs, .int _ n => if 0 ≤ n ∧ n < ln then (partA cs.toList (n.toNat * esz) esz agg).map fun v => (v, σ) else none
    | _, _ => none
  | .extract x i => match x.ev fr with
    | .tuple vs => (vs[i]?).map fun v => (v, σ)
    | _ => none
  | .len x => match x.ev fr with
    | .slice _ n _ => some (.int .i64 n, σ)
    | _ => none
  | .mx isMax x y => match x.ev fr, y.ev fr with
    | .int k a, .int _ b => some (.int k (if isMax = true then (if b > a then b else a) else (if b < a then b else a)), σ)
    | _, _ => none
  | .append esz bytes s x => appendA esz bytes σ (s.ev fr) (x.ev fr)
  | .clear esz z x => match x.ev fr with
    | .slice a n _ => if n = 0 then some (.tuple #[], σ) else match a with
      | some a => if a.spot = none ∧ σ.base ≤ a.block ∧ z.length = esz ∧ z.all one = true ∧ a.off + n * esz ≤ (σ.blk a.block).cells.length ∧ 0 < esz then
          some (.tuple #[], σ.put a.block (setCells (σ.blk a.block).cells a.off (zeroRow z n))) else none
      | none => none
    | _ => none
  | .snil neg x => match x.ev fr with
    | .slice a _ _ => some (.bool (if neg = true then a.isSome else a.isNone), σ)
    | _ => none
  | .mkfn f cap => some (.func (.func f) #[] (cap.map (·.ev fr)).toArray, σ)
end Go.AH
