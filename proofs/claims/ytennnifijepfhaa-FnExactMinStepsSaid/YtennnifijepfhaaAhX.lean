/- The machine's steps without frames: what each operation asks of its operands' values, and that the machine's precondition follows from it. -/
import Derived.Test.YtennnifijepfhaaAhT
namespace Go.AH
open Go Go.RowKit
set_option linter.unusedVariables false
set_option linter.unusedSimpArgs false

/-! ### The steps over values -/
def kO (o : Option Value) (k : Value → Prop) : Prop := match o with
  | some v => k v
  | none => False
def kH (o : Option (Value × Heap)) (k : Value → Heap → Prop) : Prop := match o with
  | some (v, σ) => k v σ
  | none => False
def vBin (op : BinOp) (x y : Value) : Option Value := match x, y with
  | .int a m, .int b n => if a = b then arithA op a m n else none
  | _, _ => none
def vPick (c a b : Value) : Option Value := match c with
  | .bool t => some (if t = true then a else b)
  | _ => none
def vLoad (n : Nat) (agg : Bool) (x : Value) (σ : Heap) : Option Value := match x with
  | .pointer (some a) => if a.spot = none then partA (σ.blk a.block).cells a.off n agg else none
  | _ => none
def vStore (n : Nat) (x v : Value) (σ : Heap) : Option Heap := match x with
  | .pointer (some a) =>
    if a.spot = none ∧ σ.base ≤ a.block ∧ (vcells v).length = n ∧ okCells v = true ∧ a.off + n ≤ (σ.blk a.block).cells.length ∧ 0 < n then
      some (σ.put a.block (setCells (σ.blk a.block).cells a.off (vcells v)))
    else none
  | _ => none
def vNilck (x : Value) : Option Value := match x with
  | .pointer (some a) => some (.pointer (some a))
  | .func f first cs => if first.size = 0 then some (.func f first cs) else none
  | _ => none
def vShift (op : BinOp) (x y : Value) : Option Value := match x, y with
  | .int k a, .int _ b => shiftA op k a b
  | _, _ => none
def vBeq (neg : Bool) (x y : Value) : Option Value := match x, y with
  | .bool a, .bool b => some (.bool (if neg = true then a != b else a == b))
  | _, _ => none
def vAeq (n : Nat) (neg : Bool) (x y : Value) : Option Value := match x, y with
  | .agg a, .agg b => if a.size = n then (cellsEq a.toList b.toList).map fun r => .bool (if neg = true then !r else r) else none
  | _, _ => none
def vUn (op : UnOp) (x : Value) : Option Value := match op, x with
  | .neg, .int k n => some (.int k (k.wrap (0 - n)))
  | .not, .bool b => some (.bool !b)
  | _, _ => none
def vConv (k : IntKind) (x : Value) : Option Value := match x with
  | .int _ n => some (.int k (k.wrap n))
  | _ => none
def vFaddr (off : Nat) (x : Value) : Option Value := match x with
  | .pointer (some a) => if a.spot = none then some (.pointer (some ⟨a.block, a.off + off, none⟩)) else none
  | _ => none
def vField (off n : Nat) (agg : Bool) (x : Value) : Option Value := match x with
  | .agg cs => partA cs.toList off n agg
  | _ => none
def vIaddr (esz : Nat) (x i : Value) : Option Value := match x, i with
  | .slice (some a) ln _, .int _ n => if a.spot = none ∧ 0 ≤ n ∧ n < ln then some (.pointer (some ⟨a.block, a.off + n.toNat * esz, none⟩)) else none
  | _, _ => none
def vIaddrA (ln esz : Nat) (x i : Value) : Option Value := match x, i with
  | .pointer (some a), .int _ n => if a.spot = none ∧ 0 ≤ n ∧ n < ln then some (.pointer (some ⟨a.block, a.off + n.toNat * esz, none⟩)) else none
  | _, _ => none
def vIndex (ln esz : Nat) (agg : Bool) (x i : Value) : Option Value := match x, i with
  | .agg cs, .int _ n => if 0 ≤ n ∧ n < ln then partA cs.toList (n.toNat * esz) esz agg else none
  | _, _ => none
def vExtract (x : Value) (i : Nat) : Option Value := match x with
  | .tuple vs => vs[i]?
  | _ => none
def vLen (x : Value) : Option Value := match x with
  | .slice _ n _ => some (.int .i64 n)
  | _ => none
def vMx (isMax : Bool) (x y : Value) : Option Value := match x, y with
  | .int k a, .int _ b => some (.int k (if isMax = true then (if b > a then b else a) else (if b < a then b else a)))
  | _, _ => none
def vSnil (neg : Bool) (x : Value) : Option Value := match x with
  | .slice a _ _ => some (.bool (if neg = true then a.isSome else a.isNone))
  | _ => none
def vSlice (esz : Nat) (x : Value) (lo hi mx : Option Value) (σ : Heap) : Option Value := match optInt lo, optInt hi, optInt mx with
  | some lo, some hi, some m => sliceA σ esz x lo hi m
  | _, _, _ => none
def vBox (x : Value) (σ : Heap) : Option (Value × Heap) := if okCells x = true then some (.pointer (some ⟨σ.size, 0, none⟩), σ.push ⟨(vcells x).length, vcells x⟩) else none
def vBuild (z : List Value) (ps : List (Nat × Nat × Value)) : Option Value := (fillA z ps).map fun cs => .agg cs.toArray
def vLit (esz ln : Nat) (z : List Value) (ps : List (Nat × Nat × Value)) (σ : Heap) : Option (Value × Heap) := (fillA (zeroRow z ln) ps).map fun cs => (.slice (some ⟨σ.size, 0, none⟩) ln ln, σ.push ⟨esz, cs⟩)
def vMk (esz bytes : Nat) (z : List Value) (l c : Value) (σ : Heap) : Option (Value × Heap) := match l, c with
  | .int .i64 n, .int .i64 m => if 0 ≤ n ∧ n ≤ m ∧ m * bytes ≤ 281474976710656 ∧ 0 < bytes then
      some (.slice (some ⟨σ.size, 0, none⟩) n.toNat m.toNat, σ.push ⟨esz, zeroRow z m.toNat⟩) else none
  | _, _ => none
def vClear (esz : Nat) (z : List Value) (x : Value) (σ : Heap) : Option Heap := match x with
  | .slice a n _ => if n = 0 then some σ else match a with
    | some a => if a.spot = none ∧ σ.base ≤ a.block ∧ z.length = esz ∧ z.all one = true ∧ a.off + n * esz ≤ (σ.blk a.block).cells.length ∧ 0 < esz then
        some (σ.put a.block (setCells (σ.blk a.block).cells a.off (zeroRow z n))) else none
    | none => none
  | _ => none
def vAppend (esz bytes : Nat) (s x : Value) (σ : Heap) : Option (Value × Heap) := appendA esz bytes σ s x
def kS (o : Option Heap) (k : Heap → Prop) : Prop := match o with
  | some σ => k σ
  | none => False
def kBool (v : Value) (A B : Prop) : Prop := match boolOf v with
  | some t => if t = true then A else B
  | none => False
def gV (g : Value) (b : Bool) : Option Bool := match g with
  | .bool c => some (c == b)
  | .tuple vs => if vs.size = 0 then some false else none
  | _ => none
def kG (g : Value) (b : Bool) (T F : Prop) : Prop := match gV g b with
  | some true => T
  | some false => F
  | none => False
def nofr : Fr := fun _ => undef
def gO : Option (Value × Bool) → Option Bool
  | none => some true
  | some (v, b) => gV v b
def kChk : List (AOp × Option (Value × Bool) × Value) → Heap → Prop
  | [], _ => True
  | (a, g, v) :: r, σ => (gO g = some true → a.step nofr σ = some (v, σ)) ∧ kChk r σ

/-! ### Each step's soundness -/
section
variable {P : Program} {w0 : World}
theorem i_mov {d : Option Nat} {x : AOpd} {r : List AOper} {Q : Fr → Heap → Prop} {fr : Fr} {σ : Heap} (h : rwp P w0 r Q (upd fr d (x.ev fr)) σ) : rwp P w0 (⟨d, none, .op (.mov x), []⟩ :: r) Q fr σ := by
  rw [rwp_op0]; exact h
theorem i_pure {d : Option Nat} {a : AOp} {r : List AOper} {Q : Fr → Heap → Prop} {fr : Fr} {σ : Heap} {o : Option Value} (e : a.step fr σ = o.map fun v => (v, σ)) {k : Value → Prop} (h : kO o k)
    (hk : ∀ v, k v → rwp P w0 r Q (upd fr d v) σ) : rwp P w0 (⟨d, none, .op a, []⟩ :: r) Q fr σ := by
  rw [rwp_op0, e]
  cases o with
  | none => exact h.elim
  | some v => exact hk v h
theorem i_heap {d : Option Nat} {a : AOp} {r : List AOper} {Q : Fr → Heap → Prop} {fr : Fr} {σ : Heap} {o : Option (Value × Heap)} (e : a.step fr σ = o) {k : Value → Heap → Prop} (h : kH o k)
    (hk : ∀ v σ', k v σ' → rwp P w0 r Q (upd fr d v) σ') : rwp P w0 (⟨d, none, .op a, []⟩ :: r) Q fr σ := by
  rw [rwp_op0, e]
  cases o with
  | none => exact h.elim
  | some p => obtain ⟨v, σ'⟩ := p; exact hk v σ' h
theorem i_set {d : Option Nat} {a : AOp} {r : List AOper} {Q : Fr → Heap → Prop} {fr : Fr} {σ : Heap} {o : Option Heap} {u : Value} (e : a.step fr σ = o.map fun σ' => (u, σ')) {k : Heap → Prop} (h : kS o k)
    (hk : ∀ σ', k σ' → rwp P w0 r Q (upd fr d u) σ') : rwp P w0 (⟨d, none, .op a, []⟩ :: r) Q fr σ := by
  rw [rwp_op0, e]
  cases o with
  | none => exact h.elim
  | some σ' => exact hk σ' h
theorem e_bin {op : BinOp} {x y : AOpd} {fr : Fr} {σ : Heap} {vx vy : Value} (hx : x.ev fr = vx) (hy : y.ev fr = vy) : (AOp.bin op x y).step fr σ = (vBin op vx vy).map fun v => (v, σ) := by
  subst hx hy
  simp only [AOp.step, vBin]
  generalize AOpd.ev fr x = vx
  generalize AOpd.ev fr y = vy
  cases vx <;> cases vy <;> first | rfl | (dsimp only; split <;> rfl)
theorem e_pick {x y z : AOpd} {fr : Fr} {σ : Heap} {vx vy vz : Value} (hx : x.ev fr = vx) (hy : y.ev fr = vy) (hz : z.ev fr = vz) : (AOp.pick x y z).step fr σ = (vPick vx vy vz).map fun v => (v, σ) := by
  subst hx hy hz
  simp only [AOp.step, vPick]
  generalize AOpd.ev fr x = vx
  generalize AOpd.ev fr y = vy
  generalize AOpd.ev fr z = vz
  cases vx <;> rfl
theorem e_load {n : Nat} {g : Bool} {x : AOpd} {fr : Fr} {σ : Heap} {vx : Value} (hx : x.ev fr = vx) : (AOp.load n g x).step fr σ = (vLoad n g vx σ).map fun v => (v, σ) := by
  subst hx
  simp only [AOp.step, vLoad]
  generalize AOpd.ev fr x = vx
  cases vx with
  | pointer p => cases p <;> first | rfl | (dsimp only; split <;> rfl)
  | _ => first | rfl | (dsimp only; split <;> rfl)
theorem e_store {n : Nat} {x y : AOpd} {fr : Fr} {σ : Heap} {vx vy : Value} (hx : x.ev fr = vx) (hy : y.ev fr = vy) : (AOp.store n x y).step fr σ = (vStore n vx vy σ).map fun σ' => (undef, σ') := by
  subst hx hy
  simp only [AOp.step, vStore]
  generalize AOpd.ev fr x = vx
  generalize AOpd.ev fr y = vy
  cases vx with
  | pointer p => cases p <;> first | rfl | (dsimp only; split <;> rfl)
  | _ => first | rfl | (dsimp only; split <;> rfl)
theorem e_nilck {x : AOpd} {fr : Fr} {σ : Heap} {vx : Value} (hx : x.ev fr = vx) : (AOp.nilck x).step fr σ = (vNilck vx).map fun v => (v, σ) := by
  subst hx
  simp only [AOp.step, vNilck]
  generalize AOpd.ev fr x = vx
  cases vx with
  | pointer p => cases p <;> first | rfl | (dsimp only; split <;> rfl)
  | _ => first | rfl | (dsimp only; split <;> rfl)
theorem e_shift {op : BinOp} {x y : AOpd} {fr : Fr} {σ : Heap} {vx vy : Value} (hx : x.ev fr = vx) (hy : y.ev fr = vy) : (AOp.shift op x y).step fr σ = (vShift op vx vy).map fun v => (v, σ) := by
  subst hx hy
  simp only [AOp.step, vShift]
  generalize AOpd.ev fr x = vx
  generalize AOpd.ev fr y = vy
  cases vx <;> cases vy <;> first | rfl | (dsimp only; split <;> rfl)
theorem e_beq {n : Bool} {x y : AOpd} {fr : Fr} {σ : Heap} {vx vy : Value} (hx : x.ev fr = vx) (hy : y.ev fr = vy) : (AOp.beq n x y).step fr σ = (vBeq n vx vy).map fun v => (v, σ) := by
  subst hx hy
  simp only [AOp.step, vBeq]
  generalize AOpd.ev fr x = vx
  generalize AOpd.ev fr y = vy
  cases vx <;> cases vy <;> first | rfl | (dsimp only; split <;> rfl)
theorem e_aeq {k : Nat} {n : Bool} {x y : AOpd} {fr : Fr} {σ : Heap} {vx vy : Value} (hx : x.ev fr = vx) (hy : y.ev fr = vy) : (AOp.aeq k n x y).step fr σ = (vAeq k n vx vy).map fun v => (v, σ) := by
  subst hx hy
  simp only [AOp.step, vAeq]
  generalize AOpd.ev fr x = vx
  generalize AOpd.ev fr y = vy
  cases vx <;> cases vy <;> first | rfl | (dsimp only; split; (simp only [Option.map_map]; rfl); rfl)
theorem e_un {op : UnOp} {x : AOpd} {fr : Fr} {σ : Heap} {vx : Value} (hx : x.ev fr = vx) : (AOp.un op x).step fr σ = (vUn op vx).map fun v => (v, σ) := by
  subst hx
  simp only [AOp.step, vUn]
  generalize AOpd.ev fr x = vx
  cases op <;> cases vx <;> rfl
theorem e_conv {k : IntKind} {x : AOpd} {fr : Fr} {σ : Heap} {vx : Value} (hx : x.ev fr = vx) : (AOp.conv k x).step fr σ = (vConv k vx).map fun v => (v, σ) := by
  subst hx
  simp only [AOp.step, vConv]
  generalize AOpd.ev fr x = vx
  cases vx <;> first | rfl | (dsimp only; split <;> rfl)
theorem e_faddr {k : Nat} {x : AOpd} {fr : Fr} {σ : Heap} {vx : Value} (hx : x.ev fr = vx) : (AOp.faddr k x).step fr σ = (vFaddr k vx).map fun v => (v, σ) := by
  subst hx
  simp only [AOp.step, vFaddr]
  generalize AOpd.ev fr x = vx
  cases vx with
  | pointer p => cases p <;> first | rfl | (dsimp only; split <;> rfl)
  | _ => first | rfl | (dsimp only; split <;> rfl)
theorem e_field {o n : Nat} {g : Bool} {x : AOpd} {fr : Fr} {σ : Heap} {vx : Value} (hx : x.ev fr = vx) : (AOp.field o n g x).step fr σ = (vField o n g vx).map fun v => (v, σ) := by
  subst hx
  simp only [AOp.step, vField]
  generalize AOpd.ev fr x = vx
  cases vx <;> first | rfl | (dsimp only; split <;> rfl)
theorem e_iaddr {n : Nat} {x y : AOpd} {fr : Fr} {σ : Heap} {vx vy : Value} (hx : x.ev fr = vx) (hy : y.ev fr = vy) : (AOp.iaddr n x y).step fr σ = (vIaddr n vx vy).map fun v => (v, σ) := by
  subst hx hy
  simp only [AOp.step, vIaddr]
  generalize AOpd.ev fr x = vx
  generalize AOpd.ev fr y = vy
  cases vx with
  | slice p n c => cases vy <;> cases p <;> first | rfl | (dsimp only; split <;> rfl)
  | _ => cases vy <;> first | rfl | (dsimp only; split <;> rfl)
theorem e_iaddrA {l n : Nat} {x y : AOpd} {fr : Fr} {σ : Heap} {vx vy : Value} (hx : x.ev fr = vx) (hy : y.ev fr = vy) : (AOp.iaddrA l n x y).step fr σ = (vIaddrA l n vx vy).map fun v => (v, σ) := by
  subst hx hy
  simp only [AOp.step, vIaddrA]
  generalize AOpd.ev fr x = vx
  generalize AOpd.ev fr y = vy
  cases vx with
  | pointer p => cases vy <;> cases p <;> first | rfl | (dsimp only; split <;> rfl)
  | _ => cases vy <;> first | rfl | (dsimp only; split <;> rfl)
theorem e_index {l n : Nat} {g : Bool} {x y : AOpd} {fr : Fr} {σ : Heap} {vx vy : Value} (hx : x.ev fr = vx) (hy : y.ev fr = vy) : (AOp.index l n g x y).step fr σ = (vIndex l n g vx vy).map fun v => (v, σ) := by
  subst hx hy
  simp only [AOp.step, vIndex]
  generalize AOpd.ev fr x = vx
  generalize AOpd.ev fr y = vy
  cases vx <;> cases vy <;> first | rfl | (dsimp only; split <;> rfl)
theorem e_extract {i : Nat} {x : AOpd} {fr : Fr} {σ : Heap} {vx : Value} (hx : x.ev fr = vx) : (AOp.extract x i).step fr σ = (vExtract vx i).map fun v => (v, σ) := by
  subst hx
  simp only [AOp.step, vExtract]
  generalize AOpd.ev fr x = vx
  cases vx <;> first | rfl | (dsimp only; split <;> rfl)
theorem e_len {x : AOpd} {fr : Fr} {σ : Heap} {vx : Value} (hx : x.ev fr = vx) : (AOp.len x).step fr σ = (vLen vx).map fun v => (v, σ) := by
  subst hx
  simp only [AOp.step, vLen]
  generalize AOpd.ev fr x = vx
  cases vx <;> first | rfl | (dsimp only; split <;> rfl)
theorem e_mx {b : Bool} {x y : AOpd} {fr : Fr} {σ : Heap} {vx vy : Value} (hx : x.ev fr = vx) (hy : y.ev fr = vy) : (AOp.mx b x y).step fr σ = (vMx b vx vy).map fun v => (v, σ) := by
  subst hx hy
  simp only [AOp.step, vMx]
  generalize AOpd.ev fr x = vx
  generalize AOpd.ev fr y = vy
  cases vx <;> cases vy <;> first | rfl | (dsimp only; split <;> rfl)
theorem e_snil {b : Bool} {x : AOpd} {fr : Fr} {σ : Heap} {vx : Value} (hx : x.ev fr = vx) : (AOp.snil b x).step fr σ = (vSnil b vx).map fun v => (v, σ) := by
  subst hx
  simp only [AOp.step, vSnil]
  generalize AOpd.ev fr x = vx
  cases vx <;> first | rfl | (dsimp only; split <;> rfl)
theorem e_slice {n : Nat} {x : AOpd} {lo hi mx : Option AOpd} {fr : Fr} {σ : Heap} {vx : Value} {vl vh vm : Option Value} (hx : x.ev fr = vx) (hl : lo.map (·.ev fr) = vl) (hh : hi.map (·.ev fr) = vh) (hm : mx.map (·.ev fr) = vm) :
    (AOp.slice n x lo hi mx).step fr σ = (vSlice n vx vl vh vm σ).map fun v => (v, σ) := by
  subst hx hl hh hm
  simp only [AOp.step, vSlice]
  generalize AOpd.ev fr x = vx
  generalize lo.map _ = vl; generalize hi.map _ = vh; generalize mx.map _ = vm
  generalize optInt vl = a; generalize optInt vh = b; generalize optInt vm = c; cases a <;> cases b <;> cases c <;> rfl
theorem e_mkfn {f : FuncId} {cap : List AOpd} {fr : Fr} {σ : Heap} {vs : List Value} (h : cap.map (·.ev fr) = vs) : (AOp.mkfn f cap).step fr σ = (some (.func (.func f) #[] vs.toArray) : Option Value).map fun v => (v, σ) := by
  subst h; rfl
theorem e_build {z : List Value} {ps : List (Nat × Nat × AOpd)} {fr : Fr} {σ : Heap} {vs : List (Nat × Nat × Value)} (h : psEv fr ps = vs) : (AOp.build z ps).step fr σ = (vBuild z vs).map fun v => (v, σ) := by
  subst h
  simp only [AOp.step, vBuild, Option.map_map]; rfl
theorem e_lit {e n : Nat} {z : List Value} {ps : List (Nat × Nat × AOpd)} {fr : Fr} {σ : Heap} {vs : List (Nat × Nat × Value)} (h : psEv fr ps = vs) : (AOp.lit e n z ps).step fr σ = vLit e n z vs σ := by
  subst h; rfl
theorem e_alloc {z : List Value} {fr : Fr} {σ : Heap} : (AOp.alloc z).step fr σ = some (.pointer (some ⟨σ.size, 0, none⟩), σ.push ⟨z.length, z⟩) := rfl
theorem e_box {x : AOpd} {fr : Fr} {σ : Heap} {vx : Value} (hx : x.ev fr = vx) : (AOp.box x).step fr σ = vBox vx σ := by subst hx; rfl
theorem e_mk {e b : Nat} {z : List Value} {x y : AOpd} {fr : Fr} {σ : Heap} {vx vy : Value} (hx : x.ev fr = vx) (hy : y.ev fr = vy) : (AOp.mk e b z x y).step fr σ = vMk e b z vx vy σ := by subst hx hy; rfl
theorem e_append {e b : Nat} {x y : AOpd} {fr : Fr} {σ : Heap} {vx vy : Value} (hx : x.ev fr = vx) (hy : y.ev fr = vy) : (AOp.append e b x y).step fr σ = vAppend e b vx vy σ := by subst hx hy; rfl
theorem e_clear {e : Nat} {z : List Value} {x : AOpd} {fr : Fr} {σ : Heap} {vx : Value} (hx : x.ev fr = vx) : (AOp.clear e z x).step fr σ = (vClear e z vx σ).map fun σ' => (.tuple #[], σ') := by
  subst hx
  simp only [AOp.step, vClear]
  generalize AOpd.ev fr x = vx
  cases vx with
  | slice p n c => dsimp only; split; rfl; cases p <;> first | rfl | (dsimp only; split <;> rfl)
  | _ => first | rfl | (dsimp only; split <;> rfl)
theorem i_call {d : Option Nat} {f : FuncId} {args : List AOpd} {r : List AOper} {Q : Fr → Heap → Prop} {fr : Fr} {σ : Heap} {vs : List Value} (e : args.map (·.ev fr) = vs) {k : Value → Heap → Prop} (h : ACalls P w0 f vs σ k)
    (hk : ∀ v σ', k v σ' → rwp P w0 r Q (upd fr d v) σ') : rwp P w0 (⟨d, none, .call f args, []⟩ :: r) Q fr σ := by
  rw [rwp_call0, e]
  exact h.mono fun v σ' h => by rw [Cont_nil]; exact hk v σ' h
theorem i_callc {d : Option Nat} {f : FuncId} {args : List AOpd} {c : List (AOp × Option (Nat × Bool) × Nat)} {r : List AOper} {Q : Fr → Heap → Prop} {fr : Fr} {σ : Heap} {vs : List Value} (e : args.map (·.ev fr) = vs) {k : Value → Heap → Prop} (h : ACalls P w0 f vs σ k)
    (hk : ∀ v σ', k v σ' → chkOk (upd fr d v) σ' c ∧ rwp P w0 r Q (upd fr d v) σ') : rwp P w0 (⟨d, none, .call f args, c⟩ :: r) Q fr σ := by
  rw [rwp_call0, e]
  exact h.mono fun v σ' h => hk v σ' h
/-- A call of a function's value. -/
def kCallv (P : Program) (w0 : World) (x : Value) (args : List Value) (σ : Heap) (k : Value → Heap → Prop) : Prop := match fnOf x with
  | some (f, cap) => callOk P f = true ∧ ACalls P w0 f (args ++ cap) σ k
  | none => False
theorem i_callv {d : Option Nat} {x : AOpd} {args : List AOpd} {c : List (AOp × Option (Nat × Bool) × Nat)} {r : List AOper} {Q : Fr → Heap → Prop} {fr : Fr} {σ : Heap} {vx : Value} {vs : List Value} (ex : x.ev fr = vx) (e : args.map (·.ev fr) = vs) {k : Value → Heap → Prop} (h : kCallv P w0 vx vs σ k)
    (hk : ∀ v σ', k v σ' → chkOk (upd fr d v) σ' c ∧ rwp P w0 r Q (upd fr d v) σ') : rwp P w0 (⟨d, none, .callv x args, c⟩ :: r) Q fr σ := by
  rw [rwp_callv0, ex, e]
  unfold kCallv at h
  split at h
  · rename_i f cap hf
    simp only [hf]
    exact ⟨h.1, h.2.mono fun v σ' h => hk v σ' h⟩
  · exact h.elim
theorem i_opc {d : Option Nat} {a : AOp} {c : List (AOp × Option (Nat × Bool) × Nat)} {r : List AOper} {Q : Fr → Heap → Prop} {fr : Fr} {σ : Heap} {o : Option (Value × Heap)} (e : a.step fr σ = o) {k : Value → Heap → Prop} (h : kH o k)
    (hk : ∀ v σ', k v σ' → chkOk (upd fr d v) σ' c ∧ rwp P w0 r Q (upd fr d v) σ') : rwp P w0 (⟨d, none, .op a, c⟩ :: r) Q fr σ := by
  cases o with
  | none => exact h.elim
  | some p =>
    obtain ⟨v, σ'⟩ := p
    have h2 := hk v σ' h
    cases c with
    | nil => rw [rwp_op0, e]; exact h2.2
    | cons c cs => rw [rwp_opc, e]; exact h2
theorem i_setc {d : Option Nat} {a : AOp} {c : List (AOp × Option (Nat × Bool) × Nat)} {r : List AOper} {Q : Fr → Heap → Prop} {fr : Fr} {σ : Heap} {o : Option Heap} {u : Value} (e : a.step fr σ = o.map fun σ' => (u, σ')) {k : Heap → Prop} (h : kS o k)
    (hk : ∀ σ', k σ' → chkOk (upd fr d u) σ' c ∧ rwp P w0 r Q (upd fr d u) σ') : rwp P w0 (⟨d, none, .op a, c⟩ :: r) Q fr σ := by
  cases o with
  | none => exact h.elim
  | some σ' =>
    have h2 := hk σ' h
    cases c with
    | nil => rw [rwp_op0, e]; exact h2.2
    | cons c cs => rw [rwp_opc, e]; exact h2
theorem i_movc {d : Option Nat} {x : AOpd} {c : List (AOp × Option (Nat × Bool) × Nat)} {r : List AOper} {Q : Fr → Heap → Prop} {fr : Fr} {σ : Heap} (h1 : chkOk (upd fr d (x.ev fr)) σ c) (h : rwp P w0 r Q (upd fr d (x.ev fr)) σ) : rwp P w0 (⟨d, none, .op (.mov x), c⟩ :: r) Q fr σ := by
  cases c with
  | nil => rw [rwp_op0]; exact h
  | cons c cs => rw [rwp_opc]; exact ⟨h1, h⟩
theorem i_t {d : Option Nat} {t : Nat} {b : Bool} {i : AIns} {c : List (AOp × Option (Nat × Bool) × Nat)} {r : List AOper} {Q : Fr → Heap → Prop} {fr : Fr} {σ : Heap} (g : gval fr (some (t, b)) = some true) (h : rwp P w0 (⟨d, none, i, c⟩ :: r) Q fr σ) : rwp P w0 (⟨d, some (t, b), i, c⟩ :: r) Q fr σ := by
  rw [rwp_guard, g]; exact h
theorem i_f {d : Option Nat} {t : Nat} {b : Bool} {i : AIns} {c : List (AOp × Option (Nat × Bool) × Nat)} {r : List AOper} {Q : Fr → Heap → Prop} {fr : Fr} {σ : Heap} (g : gval fr (some (t, b)) = some false) (h : rwp P w0 r Q (upd fr d undef) σ) : rwp P w0 (⟨d, some (t, b), i, c⟩ :: r) Q fr σ := by
  rw [rwp_guard, g]; exact h
theorem i_g (t : Nat) (b : Bool) {ops : List AOper} {N : Fr → Heap → Prop} {fr : Fr} {σ : Heap} {v : Value} {T F : Prop} (e : fr t = v) (h : kG v b T F) (hT : gval fr (some (t, b)) = some true → T → rwp P w0 ops N fr σ) (hF : gval fr (some (t, b)) = some false → F → rwp P w0 ops N fr σ) : rwp P w0 ops N fr σ := by
  have e2 : gval fr (some (t, b)) = gV v b := by subst e; rfl
  unfold kG at h
  rw [e2] at hT hF
  split at h
  · rename_i hg; exact hT hg h
  · rename_i hg; exact hF hg h
  · exact h.elim
theorem rwp_app : ∀ (a b : List AOper) (Q : Fr → Heap → Prop) (fr : Fr) (σ : Heap), rwp P w0 a (rwp P w0 b Q) fr σ → rwp P w0 (a ++ b) Q fr σ
  | [], b, Q, fr, σ, h => h
  | o :: r, b, Q, fr, σ, h => by
    have ih := rwp_app r b Q
    rw [List.cons_append]
    rw [rwp] at h ⊢
    generalize gval fr o.guard = g at h ⊢
    generalize o.ins = i at h ⊢
    generalize o.chk = c at h ⊢
    cases g with
    | none => exact h
    | some t =>
      cases t with
      | false => exact ih _ _ h
      | true =>
        cases i with
        | op a =>
          dsimp only at h ⊢
          generalize a.step fr σ = x at h ⊢
          cases x with
          | none => exact h
          | some p => exact ⟨h.1, ih _ _ h.2⟩
        | call f args => exact ACalls.mono h fun v σ' h => ⟨h.1, ih _ _ h.2⟩
        | callv x args =>
          dsimp only at h ⊢
          generalize fnOf (x.ev fr) = y at h ⊢
          cases y with
          | none => exact h
          | some p => exact ⟨h.1, h.2.mono fun v σ' h => ⟨h.1, ih _ _ h.2⟩⟩
theorem i_run (n : Nat) {ops : List AOper} {Q : Fr → Heap → Prop} {fr : Fr} {σ : Heap} (B : Fr → Heap → Prop) (hb : ∀ fr σ, B fr σ → rwp P w0 (ops.drop n) Q fr σ)
    (ha : ∀ N : Fr → Heap → Prop, (∀ fr σ, B fr σ → N fr σ) → rwp P w0 (ops.take n) N fr σ) : rwp P w0 ops Q fr σ := by
  have h := rwp_app (P := P) (w0 := w0) (ops.take n) (ops.drop n) Q fr σ (ha _ hb)
  rwa [List.take_append_drop] at h
theorem r_cell {t n : Nat} {agg : Bool} {K : Value → Heap → Prop} {fr : Fr} {σ : Heap} {v : Value} (e : fr t = v) (h : kO (vLoad n agg v σ) fun v => K v σ) : retQ [.cell t n agg] K .ret fr σ := by
  subst e
  unfold retQ
  simp only [resVals, ARes.val]
  unfold vLoad at h
  split at h
  · rename_i a ha
    rw [ha]
    dsimp only
    split at h
    · rename_i hs
      rw [if_pos hs]
      generalize partA (σ.blk a.block).cells a.off n agg = o at h
      cases o with
      | none => exact h.elim
      | some v => exact h
    · exact h.elim
  · exact h.elim

/-! ### Code -/
/-- What is behind an end of a piece of code, told by another way of saying it. -/
structure Beh (Q Q' : Ex → Fr → Heap → Prop) : Prop where
  x : ∀ i fr σ, Q (.exit i) fr σ → Q' (.exit i) fr σ
  r : ∀ fr σ, Q .ret fr σ → Q' .ret fr σ
theorem c_seq {a b : ACode} {Q : Ex → Fr → Heap → Prop} {fr : Fr} {σ : Heap} (B : Fr → Heap → Prop) (hb : ∀ fr σ, B fr σ → AWp P w0 b Q fr σ)
    (ha : ∀ Q' : Ex → Fr → Heap → Prop, (∀ fr σ, B fr σ → Q' .normal fr σ) → Beh Q Q' → AWp P w0 a Q' fr σ) : AWp P w0 (.seq a b) Q fr σ :=
  ha _ hb ⟨fun _ _ _ h => h, fun _ _ h => h⟩
theorem c_seqr {ops : List AOper} {b : ACode} {Q : Ex → Fr → Heap → Prop} {fr : Fr} {σ : Heap} (h : rwp P w0 ops (AWp P w0 b Q) fr σ) : AWp P w0 (.seq (.region ops) b) Q fr σ := h
theorem c_seqa {a b c : ACode} {Q : Ex → Fr → Heap → Prop} {fr : Fr} {σ : Heap} (h : AWp P w0 (.seq a (.seq b c)) Q fr σ) : AWp P w0 (.seq (.seq a b) c) Q fr σ := by
  refine AWp_mono a ?_ h
  intro e fr σ h
  cases e with
  | normal => exact h
  | exit i => exact h
  | ret => exact h
theorem c_seqk {b : ACode} {Q : Ex → Fr → Heap → Prop} {fr : Fr} {σ : Heap} (h : AWp P w0 b Q fr σ) : AWp P w0 (.seq .skip b) Q fr σ := h
theorem c_seqx {i : Nat} {b : ACode} {Q : Ex → Fr → Heap → Prop} {fr : Fr} {σ : Heap} (h : Q (.exit i) fr σ) : AWp P w0 (.seq (.exit i) b) Q fr σ := h
theorem c_seqt {b : ACode} {Q : Ex → Fr → Heap → Prop} {fr : Fr} {σ : Heap} (h : Q .ret fr σ) : AWp P w0 (.seq .ret b) Q fr σ := h
theorem c_seqc {c : AOpd} {a b r : ACode} {Q : Ex → Fr → Heap → Prop} {fr : Fr} {σ : Heap} {v : Value} {A B : Prop} (e : c.ev fr = v) (h : kBool v A B) (ha : A → AWp P w0 (.seq a r) Q fr σ) (hb : B → AWp P w0 (.seq b r) Q fr σ) : AWp P w0 (.seq (.cond c a b) r) Q fr σ := by
  subst e
  unfold kBool at h
  simp only [AWp]
  split at h
  · rename_i t ht
    rw [ht]
    split at h
    · rename_i hc; simp only [hc, if_true]; exact ha h
    · rename_i hc; simp only [hc, if_false]; exact hb h
  · exact h.elim
theorem c_cond {c : AOpd} {a b : ACode} {Q : Ex → Fr → Heap → Prop} {fr : Fr} {σ : Heap} {v : Value} {A B : Prop} (e : c.ev fr = v) (h : kBool v A B) (ha : A → AWp P w0 a Q fr σ) (hb : B → AWp P w0 b Q fr σ) : AWp P w0 (.cond c a b) Q fr σ := by
  subst e
  unfold kBool at h
  simp only [AWp]
  split at h
  · rename_i t ht
    rw [ht]
    split at h
    · rename_i hc; simp only [hc, if_true]; exact ha h
    · rename_i hc; simp only [hc, if_false]; exact hb h
  · exact h.elim
theorem c_block {id : Nat} {c : ACode} {Q : Ex → Fr → Heap → Prop} {fr : Fr} {σ : Heap}
    (h : ∀ Q' : Ex → Fr → Heap → Prop, (∀ fr σ, Q .normal fr σ → Q' .normal fr σ) → (∀ fr σ, Q .normal fr σ → Q' (.exit id) fr σ) → (∀ i fr σ, i ≠ id → Q (.exit i) fr σ → Q' (.exit i) fr σ) → (∀ fr σ, Q .ret fr σ → Q' .ret fr σ) → AWp P w0 c Q' fr σ) : AWp P w0 (.block id c) Q fr σ :=
  h _ (fun _ _ h => h) (fun _ _ h => by simp only [exBlock, if_true]; exact h) (fun i fr σ hi h => by simp only [exBlock, if_neg hi]; exact h) (fun _ _ h => h)

/-- Rounds: some relation whose number goes down holds, and a round keeps it. -/
def AgainH {α : Type} (I : Nat → α → Heap → Prop) (k : Nat) (s : α) (σ : Heap) : Prop := ∃ j, j < k ∧ I j s σ
theorem againH {α : Type} {I : Nat → α → Heap → Prop} {k : Nat} {s : α} {σ : Heap} (j : Nat) (hj : j < k) (h : I j s σ) : AgainH I k s σ := ⟨j, hj, h⟩
def loopH {α : Type} (body : (α → Heap → Prop) → α → Heap → Prop) (s : α) (σ : Heap) : Prop :=
  ∃ (I : Nat → α → Heap → Prop) (k : Nat), I k s σ ∧ ∀ k s σ, I k s σ → body (AgainH I k) s σ
theorem c_loop {α γ : Type} {c : ACode} {Q : Ex → Fr → Heap → Prop} {fr : Fr} {σ : Heap} (g : Fr → γ) (s : Fr → α) (body : γ → (α → Heap → Prop) → α → Heap → Prop) (h : loopH (body (g fr)) (s fr) σ)
    (hb : ∀ (J : α → Heap → Prop) (z : γ) (fr : Fr) (σ : Heap), g fr = z → body z J (s fr) σ → ∀ Q' : Ex → Fr → Heap → Prop, (∀ fr σ, g fr = z ∧ J (s fr) σ → Q' .normal fr σ) → Beh Q Q' → AWp P w0 c Q' fr σ) : AWp P w0 (.loop c) Q fr σ := by
  obtain ⟨I, k, h0, hI⟩ := h
  refine AWp_loop (fun k fr' σ' => g fr' = g fr ∧ I k (s fr') σ') (fun k fr' σ' h => ?_) k fr σ ⟨rfl, h0⟩
  exact hb _ (g fr) fr' σ' h.1 (hI k _ _ h.2) _ (fun fr2 σ2 h => by
    obtain ⟨h1, j, hj, h2⟩ := h
    exact ⟨j, hj, h1, h2⟩) ⟨fun _ _ _ h => h, fun _ _ h => h⟩
/-- A loop that counts. -/
theorem loop_count {α : Type} {body : (α → Heap → Prop) → α → Heap → Prop} (I : Nat → α → Heap → Prop) (k : Nat) {s : α} {σ : Heap} (h0 : I k s σ)
    (round : ∀ J : Nat → α → Heap → Prop, (∀ k s σ, I k s σ → J k s σ) → ∀ k s σ, I k s σ → body (AgainH J k) s σ) : loopH body s σ :=
  ⟨I, k, h0, round I fun _ _ _ h => h⟩
end
end Go.AH
