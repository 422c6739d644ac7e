/- Each abstract step is what the model's operation does, up to the renaming of blocks. -/
import Derived.Test.YtennnifijepfhaaAhB
import Derived.Laws.Cells
import Derived.Laws.Entries
import Derived.ChangeKeysEq
import Derived.Calls
namespace Go.AH
open Go Go.RowKit

theorem VRel.int_inv {B : Nat} {ρ : Ren} {k : IntKind} {n : Int} {v' : Value} (h : VRel B ρ (.int k n) v') : v' = .int k n := by cases h; rfl
theorem VRel.bool_inv {B : Nat} {ρ : Ren} {b : Bool} {v' : Value} (h : VRel B ρ (.bool b) v') : v' = .bool b := by cases h; rfl
theorem VRel.str_inv {B : Nat} {ρ : Ren} {b : ByteArray} {v' : Value} (h : VRel B ρ (.string b) v') : v' = .string b := by cases h; rfl
theorem VRel.ptr_inv {B : Nat} {ρ : Ren} {a : Addr} {v' : Value} (h : VRel B ρ (.pointer (some a)) v') : ∃ a', v' = .pointer (some a') ∧ AddrRel B ρ a a' := by cases h; exact ⟨_, rfl, by assumption⟩
theorem VRel.agg_inv {B : Nat} {ρ : Ren} {cs : Array Value} {v' : Value} (h : VRel B ρ (.agg cs) v') : ∃ cs', v' = .agg cs' ∧ LRel B ρ cs.toList cs'.toList := by
  cases h; rename_i cs' h1 h2; exact ⟨cs', rfl, by simpa using h1, fun i x x' a b => h2 i x x' (by simpa using a) (by simpa using b)⟩
theorem VRel.tup_inv {B : Nat} {ρ : Ren} {cs : Array Value} {v' : Value} (h : VRel B ρ (.tuple cs) v') : ∃ cs', v' = .tuple cs' ∧ LRel B ρ cs.toList cs'.toList := by
  cases h; rename_i cs' h1 h2; exact ⟨cs', rfl, by simpa using h1, fun i x x' a b => h2 i x x' (by simpa using a) (by simpa using b)⟩
theorem VRel.func_inv {B : Nat} {ρ : Ren} {f : Fn} {cs : Array Value} {v' : Value} (h : VRel B ρ (.func f #[] cs) v') : ∃ cs', v' = .func f #[] cs' ∧ LRel B ρ cs.toList cs'.toList := by
  cases h; rename_i cs' h1 h2; exact ⟨cs', rfl, by simpa using h1, fun i x x' a b => h2 i x x' (by simpa using a) (by simpa using b)⟩
theorem VRel.mkAgg {B : Nat} {ρ : Ren} {l l' : List Value} (h : LRel B ρ l l') : VRel B ρ (.agg l.toArray) (.agg l'.toArray) := .agg _ _ (by simpa using h.1) (fun i x x' a b => h.2 i x x' (by simpa using a) (by simpa using b))
theorem VRel.mkFunc {B : Nat} {ρ : Ren} {f : Fn} {l l' : List Value} (h : LRel B ρ l l') : VRel B ρ (.func f #[] l.toArray) (.func f #[] l'.toArray) := .func _ _ _ (by simpa using h.1) (fun i x x' a b => h.2 i x x' (by simpa using a) (by simpa using b))
theorem VRel.one_inv {B : Nat} {ρ : Ren} {v v' : Value} (h : VRel B ρ v v') (ho : one v = true) : v'.oneCell' = true ∧ v'.cells = #[v'] := by
  cases h <;> first | exact ⟨rfl, rfl⟩ | (simp [one] at ho)
theorem one_vcells {v : Value} (h : one v = true) : vcells v = [v] := by cases v <;> first | rfl | (simp [one] at h)
theorem VRel.cells {B : Nat} {ρ : Ren} {v v' : Value} (h : VRel B ρ v v') (ho : okCells v = true) : LRel B ρ (vcells v) v'.cells.toList ∧ ∀ x ∈ v'.cells.toList, x.oneCell' = true := by
  cases v with
  | agg cs =>
    obtain ⟨cs', rfl, hl⟩ := h.agg_inv
    refine ⟨hl, fun x hx => ?_⟩
    obtain ⟨i, hi, rfl⟩ := List.getElem_of_mem hx
    have hi' : i < cs.toList.length := by rw [hl.1]; exact hi
    have hv := hl.2 i _ _ (List.getElem?_eq_getElem hi') (List.getElem?_eq_getElem hi)
    have : one cs.toList[i] = true := by
      have := List.all_eq_true.1 ho cs.toList[i] (List.getElem_mem _)
      exact this
    exact (hv.one_inv this).1
  | _ =>
    all_goals first
      | (simp [okCells, vcells, one] at ho; done)
      | (have h1 := h.one_inv rfl; rw [h1.2]; exact ⟨LRel.cons h (LRel.nil _ _), fun x hx => by simp at hx; subst hx; exact h1.1⟩)

theorem addr_add (b o i : Nat) : (⟨b, o, none⟩ : Addr).add i = ⟨b, o + i, none⟩ := by unfold Addr.add; split <;> simp_all
theorem addr_eta {a : Addr} (h : a.spot = none) : a = ⟨a.block, a.off, none⟩ := by cases a; simp_all
/-- What an abstract address leads to. -/
theorem ARel.at_ {w0 : World} {ρ : Ren} {σ : Heap} {w : World} (h : ARel w0 ρ σ w) {a a' : Addr} (ha : AddrRel w0.heap.size ρ a a') {j : Nat} {v : Value} (hv : (σ.blk a.block).cells[a.off + j]? = some v) :
    ∃ v', w.cell? (a'.add j) = some v' ∧ VRel w0.heap.size ρ v v' := by
  obtain ⟨h1, h2, h3⟩ := ha
  rcases h3 with ⟨h3, rfl⟩ | ⟨h3, l, hl, rfl⟩
  · rw [h.old _ h3] at hv
    unfold oldBlk at hv
    rw [addr_eta h1, addr_add]
    cases hb : w0.heap[a'.block]? with
    | none => rw [hb] at hv; simp at hv
    | some o =>
      rw [hb] at hv
      cases o with
      | cells C e fr =>
        simp only [List.getElem?_map, Option.map_eq_some_iff] at hv
        obtain ⟨v', hv', rfl⟩ := hv
        refine ⟨v', ?_, san_rel _ _ _⟩
        unfold World.cell?
        rw [h.below.block _ h3, hb]
        simpa using hv'
      | _ => simp at hv
  · have hne : (σ.blk a.block).cells ≠ [] := by intro e; rw [e] at hv; simp at hv
    obtain ⟨l', C, e, g1, g2, g3, g4, g5⟩ := h.new _ h3 hne
    rw [hl] at g1; cases g1
    obtain ⟨v', k1, k2⟩ := g5 _ _ hv
    refine ⟨v', ?_, k2⟩
    rw [addr_add]
    unfold World.cell?
    rw [g3]
    simpa [Nat.add_assoc] using k1
theorem readCells_eq {l : List Value} {o n : Nat} {vs : List Value} (h : readCells l o n = some vs) : vs.length = n ∧ o + n ≤ l.length ∧ ∀ j, j < n → vs[j]? = l[o + j]? := by
  unfold readCells at h
  split at h
  · cases h
    refine ⟨by simp; omega, by assumption, fun j hj => ?_⟩
    rw [List.getElem?_take, if_pos hj, List.getElem?_drop]
  · cases h
/-- Cells that are read, one behind the other. -/
theorem ARel.readc {w0 : World} {ρ : Ren} {σ : Heap} {w : World} (h : ARel w0 ρ σ w) {a a' : Addr} (ha : AddrRel w0.heap.size ρ a a') {n : Nat} {vs : List Value} (hv : readCells (σ.blk a.block).cells a.off n = some vs) :
    ∃ vs', (∀ (j : Nat) (u : Value), vs'[j]? = some u → w.cell? (a'.add j) = some u) ∧ LRel w0.heap.size ρ vs vs' ∧ vs'.length = n := by
  obtain ⟨h1, h2, h3⟩ := readCells_eq hv
  have hall : ∀ j, j < n → ∃ v', w.cell? (a'.add j) = some v' ∧ VRel w0.heap.size ρ (vs.getD j junk) v' := by
    intro j hj
    have hj' : j < vs.length := by omega
    have e := h3 j hj
    rw [List.getElem?_eq_getElem hj'] at e
    obtain ⟨v', k1, k2⟩ := h.at_ ha (j := j) e.symm
    exact ⟨v', k1, by simpa [List.getD_eq_getElem?_getD, List.getElem?_eq_getElem hj'] using k2⟩
  let g : Nat → Value := fun j => if hj : j < n then (hall j hj).choose else junk
  let vs' : List Value := (List.range n).map g
  have hg : ∀ j (hj : j < n), w.cell? (a'.add j) = some (g j) ∧ VRel w0.heap.size ρ (vs.getD j junk) (g j) := fun j hj => by
    simp only [g, hj, dite_true]
    exact (hall j hj).choose_spec
  have hlen : vs'.length = n := by simp [vs']
  refine ⟨vs', fun j v hj => ?_, ⟨by omega, fun i x x' a b => ?_⟩, hlen⟩
  · have hjn : j < n := by have := (List.getElem?_eq_some_iff.1 hj).1; omega
    simp only [vs', List.getElem?_map, List.getElem?_range hjn, Option.map_some, Option.some.injEq] at hj
    rw [← hj]
    exact (hg j hjn).1
  · have hi : i < n := by have := (List.getElem?_eq_some_iff.1 a).1; omega
    simp only [vs', List.getElem?_map, List.getElem?_range hi, Option.map_some, Option.some.injEq] at b
    rw [← b]
    have := (hg i hi).2
    simpa [List.getD_eq_getElem?_getD, a] using this
theorem ARel.read {w0 : World} {ρ : Ren} {σ : Heap} {w : World} (h : ARel w0 ρ σ w) {a a' : Addr} (ha : AddrRel w0.heap.size ρ a a') {n : Nat} {vs : List Value} (hv : readCells (σ.blk a.block).cells a.off n = some vs) (P : Program) :
    ∃ vs', (loadCells a' n).run P w = .ok vs'.toArray w ∧ LRel w0.heap.size ρ vs vs' ∧ vs'.length = n := by
  obtain ⟨vs', h1, h2, h3⟩ := h.readc ha hv
  have := run_loadCells_list (P := P) (w := w) a' vs' h1
  rw [h3] at this
  exact ⟨vs', this, h2, h3⟩

def Frames (B : Nat) (ρ : Ren) (fr : Nat → Value) (a : Act) : Prop := ∀ t, VRel B ρ (fr t) (a.tmps.getD t undef)
/-- The abstract function f does what the operation does. -/
def Sim (P : Program) (o : Oper) (f : (Nat → Value) → Heap → Option (Value × Heap)) : Prop :=
  ∀ (w0 : World) (ρ : Ren) (σ : Heap) (w : World) (fr : Nat → Value) (a : Act) (v : Value) (σ' : Heap),
    ARel w0 ρ σ w → Frames w0.heap.size ρ fr a → f fr σ = some (v, σ') →
    ∃ nx w' ρ' v', (execOp a.eval o).run P w = .ok nx w' ∧ (nx = .value v' ∨ (nx = .skip ∧ v' = undef)) ∧ ρ.le ρ' ∧ ARel w0 ρ' σ' w' ∧ VRel w0.heap.size ρ' v v'
/-- An operation that looks at the world, and leaves it alone. -/
theorem Sim.still {P : Program} {o : Oper} {f : (Nat → Value) → Heap → Option (Value × Heap)}
    (h : ∀ (w0 : World) (ρ : Ren) (σ : Heap) (w : World) (fr : Nat → Value) (a : Act) (v : Value) (σ' : Heap),
      ARel w0 ρ σ w → Frames w0.heap.size ρ fr a → f fr σ = some (v, σ') → σ' = σ ∧ ∃ v', (execOp a.eval o).run P w = .ok (.value v') w ∧ VRel w0.heap.size ρ v v') : Sim P o f := by
  intro w0 ρ σ w fr a v σ' hr hf he
  obtain ⟨rfl, v', h1, h2⟩ := h w0 ρ σ w fr a v σ' hr hf he
  exact ⟨_, w, ρ, v', h1, .inl rfl, Ren.le.refl _, hr, h2⟩

def constOk : Value → Bool
  | .bool _ | .int _ _ | .string _ => true
  | .pointer none => true
  | .slice none 0 0 => true
  | .agg cs => cs.toList.all fun
    | .bool _ | .int _ _ | .string _ => true
    | .pointer none => true
    | .slice none 0 0 => true
    | _ => false
  | _ => false
theorem constOk_flat {B : Nat} {ρ : Ren} {v : Value} (h : (match v with
    | .bool _ | .int _ _ | .string _ => true
    | .pointer none => true
    | .slice none 0 0 => true
    | _ => false) = true) : VRel B ρ v v := by
  split at h
  · exact .bool _
  · exact .int _ _
  · exact .str _
  · exact .ptr0
  · exact .sl0
  · cases h
theorem constOk_rel {B : Nat} {ρ : Ren} {v : Value} (h : constOk v = true) : VRel B ρ v v := by
  unfold constOk at h
  split at h
  · exact .bool _
  · exact .int _ _
  · exact .str _
  · exact .ptr0
  · exact .sl0
  · rename_i cs
    refine .agg _ _ rfl (fun i x x' a b => ?_)
    rw [a] at b
    cases b
    have hm : x ∈ cs.toList := by
      have : cs.toList[i]? = some x := by simpa using a
      exact List.mem_of_getElem? this
    exact constOk_flat (List.all_eq_true.1 h x hm)
  · cases h
def compOpd : Operand → Option AOpd
  | .tmp t => some (.t t)
  | .const v => if constOk v = true then some (.c v) else none
  | .func f => some (.c (.func (.func f) #[] #[]))
  | .global _ => none
theorem compOpd_ev {x : Operand} {ax : AOpd} (h : compOpd x = some ax) {B : Nat} {ρ : Ren} {fr : Nat → Value} {a : Act} (hf : Frames B ρ fr a) : VRel B ρ (ax.ev fr) (a.eval x) := by
  cases x with
  | tmp t => simp only [compOpd, Option.some.injEq] at h; subst h; exact hf t
  | const v =>
    simp only [compOpd] at h
    split at h
    · cases h; exact constOk_rel (by assumption)
    · cases h
  | global g => simp [compOpd] at h
  | func f => simp only [compOpd, Option.some.injEq] at h; subst h; exact VRel.mkFunc (LRel.nil _ _)
end Go.AH
