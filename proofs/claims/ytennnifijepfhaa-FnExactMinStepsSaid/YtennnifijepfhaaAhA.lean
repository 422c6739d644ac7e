/- The abstract heap: values' relation up to a renaming of blocks, the relation of an abstract heap with the model's world, and how both move together. -/
import Derived.Below
import Derived.Orders
import Derived.Laws.Sem
import Derived.Laws.World
import Derived.KernelRfl
namespace Go.AH
open Go Go.RowKit

/-- Where an abstract block lies: the world's block, where in it, that block's cells, an element's cells. -/
structure Loc where
  blk : Nat
  off : Nat
  size : Nat
  esz : Nat
abbrev Ren := Nat → Option Loc
def Ren.le (ρ ρ' : Ren) : Prop := ∀ i l, ρ i = some l → ρ' i = some l
theorem Ren.le.refl (ρ : Ren) : ρ.le ρ := fun _ _ h => h
theorem Ren.le.trans {a b c : Ren} (h : a.le b) (k : b.le c) : a.le c := fun i l x => k i l (h i l x)

structure Blk where
  esz : Nat
  cells : List Value
structure Heap where
  base : Nat
  size : Nat
  hle : base ≤ size
  blk : Nat → Blk
abbrev junk : Value := .complex .f32 0 0

def Heap.push (σ : Heap) (b : Blk) : Heap := ⟨σ.base, σ.size + 1, Nat.le_succ_of_le σ.hle, fun i => if i = σ.size then b else σ.blk i⟩
def Heap.put (σ : Heap) (id : Nat) (cs : List Value) : Heap := ⟨σ.base, σ.size, σ.hle, fun i => if i = id then ⟨(σ.blk id).esz, cs⟩ else σ.blk i⟩
def Heap.cells (σ : Heap) (id : Nat) : List Value := (σ.blk id).cells
def setCells (l : List Value) (off : Nat) : List Value → List Value
  | [] => l
  | v :: vs => setCells (l.set off v) (off + 1) vs

/-- An address and what it stands for. -/
def AddrRel (B : Nat) (ρ : Ren) (a a' : Addr) : Prop :=
  a.spot = none ∧ a'.spot = none ∧ ((a.block < B ∧ a' = a) ∨ (B ≤ a.block ∧ ∃ l, ρ a.block = some l ∧ a' = ⟨l.blk, l.off + a.off, none⟩))
/-- A slice's room in its block. -/
def Room (B : Nat) (ρ : Ren) (a : Addr) (c' : Nat) : Prop :=
  B ≤ a.block → ∀ l, ρ a.block = some l → l.off + a.off + c' * l.esz ≤ l.size

inductive VRel (B : Nat) (ρ : Ren) : Value → Value → Prop
  | junk (v' : Value) : VRel B ρ junk v'
  | bool (b : Bool) : VRel B ρ (.bool b) (.bool b)
  | int (k : IntKind) (n : Int) : VRel B ρ (.int k n) (.int k n)
  | str (s : ByteArray) : VRel B ρ (.string s) (.string s)
  | ptr0 : VRel B ρ (.pointer none) (.pointer none)
  | ptr (a a' : Addr) (h : AddrRel B ρ a a') : VRel B ρ (.pointer (some a)) (.pointer (some a'))
  | sl0 : VRel B ρ (.slice none 0 0) (.slice none 0 0)
  | sl (a a' : Addr) (n c c' : Nat) (hc : c = 0 → c' = 0) (hn : n ≤ c') (ha : c' = 0 ∨ (AddrRel B ρ a a' ∧ Room B ρ a c')) : VRel B ρ (.slice (some a) n c) (.slice (some a') n c')
  | agg (cs cs' : Array Value) (hs : cs.size = cs'.size) (h : ∀ (i : Nat) x x', cs[i]? = some x → cs'[i]? = some x' → VRel B ρ x x') : VRel B ρ (.agg cs) (.agg cs')
  | tup (cs cs' : Array Value) (hs : cs.size = cs'.size) (h : ∀ (i : Nat) x x', cs[i]? = some x → cs'[i]? = some x' → VRel B ρ x x') : VRel B ρ (.tuple cs) (.tuple cs')
  | func (f : Fn) (cs cs' : Array Value) (hs : cs.size = cs'.size) (h : ∀ (i : Nat) x x', cs[i]? = some x → cs'[i]? = some x' → VRel B ρ x x') : VRel B ρ (.func f #[] cs) (.func f #[] cs')

theorem AddrRel.mono {B : Nat} {ρ ρ' : Ren} (hρ : ρ.le ρ') {a a' : Addr} (h : AddrRel B ρ a a') : AddrRel B ρ' a a' :=
  ⟨h.1, h.2.1, h.2.2.imp id fun ⟨h1, l, h2, h3⟩ => ⟨h1, l, hρ _ _ h2, h3⟩⟩
theorem VRel.mono {B : Nat} {ρ ρ' : Ren} (hρ : ρ.le ρ') {v v' : Value} (h : VRel B ρ v v') : VRel B ρ' v v' := by
  induction h with
  | junk v' => exact .junk _
  | bool b => exact .bool _
  | int k n => exact .int _ _
  | str s => exact .str _
  | ptr0 => exact .ptr0
  | ptr a a' h => exact .ptr _ _ (h.mono hρ)
  | sl0 => exact .sl0
  | sl a a' n c c' hc hn ha =>
    refine .sl _ _ _ _ _ hc hn (ha.imp id fun ⟨h1, h2⟩ => ⟨h1.mono hρ, fun hb l hl => ?_⟩)
    obtain ⟨_, _, h3⟩ := h1
    rcases h3 with ⟨h3, _⟩ | ⟨_, l0, h4, _⟩
    · omega
    · have := hρ _ _ h4
      rw [this] at hl
      cases hl
      exact h2 hb _ h4
  | agg cs cs' hs _ ih => exact .agg _ _ hs ih
  | tup cs cs' hs _ ih => exact .tup _ _ hs ih
  | func f cs cs' hs _ ih => exact .func _ _ _ hs ih
theorem VRel.undef (B : Nat) (ρ : Ren) : VRel B ρ undef undef := .tup _ _ rfl (fun i x x' h => by simp at h)

/-- Lists of values, one by one. -/
def LRel (B : Nat) (ρ : Ren) (l l' : List Value) : Prop := l.length = l'.length ∧ ∀ (i : Nat) x x', l[i]? = some x → l'[i]? = some x' → VRel B ρ x x'
theorem LRel.mono {B : Nat} {ρ ρ' : Ren} (hρ : ρ.le ρ') {l l' : List Value} (h : LRel B ρ l l') : LRel B ρ' l l' := ⟨h.1, fun i x x' a b => (h.2 i x x' a b).mono hρ⟩
theorem LRel.nil (B : Nat) (ρ : Ren) : LRel B ρ [] [] := ⟨rfl, fun i x x' h => by simp at h⟩
theorem LRel.cons {B : Nat} {ρ : Ren} {v v' : Value} {l l' : List Value} (h : VRel B ρ v v') (k : LRel B ρ l l') : LRel B ρ (v :: l) (v' :: l') := by
  refine ⟨by simp [k.1], fun i x x' a b => ?_⟩
  cases i with
  | zero => simp at a b; subst a b; exact h
  | succ i => simp at a b; exact k.2 i x x' a b
theorem LRel.get {B : Nat} {ρ : Ren} {l l' : List Value} (h : LRel B ρ l l') {i : Nat} {x : Value} (hx : l[i]? = some x) : ∃ x', l'[i]? = some x' ∧ VRel B ρ x x' := by
  have hi : i < l.length := (List.getElem?_eq_some_iff.1 hx).1
  have hi' : i < l'.length := h.1 ▸ hi
  exact ⟨l'[i], List.getElem?_eq_getElem hi', h.2 i _ _ hx (List.getElem?_eq_getElem hi')⟩
theorem LRel.append {B : Nat} {ρ : Ren} {l l' k k' : List Value} (h : LRel B ρ l l') (g : LRel B ρ k k') : LRel B ρ (l ++ k) (l' ++ k') := by
  refine ⟨by simp [h.1, g.1], fun i x x' a b => ?_⟩
  by_cases hi : i < l.length
  · rw [List.getElem?_append_left hi] at a
    rw [List.getElem?_append_left (h.1 ▸ hi)] at b
    exact h.2 i x x' a b
  · rw [List.getElem?_append_right (by omega)] at a
    rw [List.getElem?_append_right (by have := h.1; omega), ← h.1] at b
    exact g.2 _ x x' a b
theorem LRel.take {B : Nat} {ρ : Ren} {l l' : List Value} (h : LRel B ρ l l') (n : Nat) : LRel B ρ (l.take n) (l'.take n) := by
  refine ⟨by simp [h.1], fun i x x' a b => ?_⟩
  rw [List.getElem?_take] at a b
  split at a
  · rename_i hi; rw [if_pos hi] at b; exact h.2 i x x' a b
  · cases a
theorem LRel.drop {B : Nat} {ρ : Ren} {l l' : List Value} (h : LRel B ρ l l') (n : Nat) : LRel B ρ (l.drop n) (l'.drop n) := by
  refine ⟨by simp [h.1], fun i x x' a b => ?_⟩
  rw [List.getElem?_drop] at a b
  exact h.2 _ x x' a b
theorem LRel.set {B : Nat} {ρ : Ren} {l l' : List Value} (h : LRel B ρ l l') (n : Nat) {v v' : Value} (hv : VRel B ρ v v') : LRel B ρ (l.set n v) (l'.set n v') := by
  refine ⟨by simp [h.1], fun i x x' a b => ?_⟩
  rw [List.getElem?_set] at a b
  split at a
  · rename_i hi
    subst hi
    rw [if_pos rfl] at b
    split at a
    · split at b
      · cases a; cases b; exact hv
      · cases b
    · cases a
  · rename_i hi
    rw [if_neg hi] at b
    exact h.2 _ x x' a b

/-- What an old block reads as: cells that lead into new blocks read as nothing. -/
noncomputable def san (B : Nat) (v : Value) : Value := open Classical in if VRel B (fun _ => none) v v then v else junk
theorem san_rel (B : Nat) (ρ : Ren) (v : Value) : VRel B ρ (san B v) v := by
  unfold san
  split
  · rename_i h; exact h.mono (fun _ _ h => by cases h)
  · exact .junk _
theorem san_eq {B : Nat} {v : Value} (h : VRel B (fun _ => none) v v) : san B v = v := by unfold san; rw [if_pos h]
noncomputable def oldBlk (w0 : World) (id : Nat) : List Value :=
  match w0.heap[id]? with
  | some (.cells C _ _) => C.toList.map (san w0.heap.size)
  | _ => []

/-- The abstract heap and the world. -/
structure ARel (w0 : World) (ρ : Ren) (σ : Heap) (w : World) : Prop where
  base : σ.base = w0.heap.size
  below : Below w0.heap.size w0 w
  loc : ∀ i l, ρ i = some l → w0.heap.size ≤ i ∧ i < σ.size ∧ w0.heap.size ≤ l.blk ∧ ∃ C e, w.heap[l.blk]? = some (.cells C e (0, 0)) ∧ C.size = l.size
  esz : ∀ i l, ρ i = some l → l.esz = (σ.blk i).esz
  old : ∀ i, i < w0.heap.size → (σ.blk i).cells = oldBlk w0 i
  new : ∀ i, w0.heap.size ≤ i → (σ.blk i).cells ≠ [] → ∃ l C e, ρ i = some l ∧ l.esz = (σ.blk i).esz ∧ w.heap[l.blk]? = some (.cells C e (0, 0)) ∧ C.size = l.size ∧
    ∀ j v, (σ.blk i).cells[j]? = some v → ∃ v', C[l.off + j]? = some v' ∧ VRel w0.heap.size ρ v v'
  inj : ∀ i j l k, i ≠ j → (σ.blk i).cells ≠ [] → (σ.blk j).cells ≠ [] → ρ i = some l → ρ j = some k → l.blk ≠ k.blk
  top : ∀ i, σ.size ≤ i → (σ.blk i).cells = []

theorem ARel.drawn {w0 : World} {ρ : Ren} {σ : Heap} {w : World} (h : ARel w0 ρ σ w) (n : Nat) : ARel w0 ρ σ { w with drawn := n } :=
  { h with below := ⟨h.below.os, h.below.tape, h.below.output, h.below.size, h.below.block⟩ }

theorem ARel.wsize {w0 : World} {ρ : Ren} {σ : Heap} {w : World} (h : ARel w0 ρ σ w) : w0.heap.size ≤ w.heap.size := h.below.size
theorem lt_of_get {w : World} {b : Nat} {o : Obj} (h : w.heap[b]? = some o) : b < w.heap.size := (Array.getElem?_eq_some_iff.1 h).1

/-- A new block. -/
theorem ARel.alloc {w0 : World} {ρ : Ren} {σ : Heap} {w : World} (h : ARel w0 ρ σ w) (esz : Nat) (e : TypeId) (cs : List Value) (C : Array Value)
    (hc : ∀ (j : Nat) (v : Value), cs[j]? = some v → ∃ v', C[j]? = some v' ∧ VRel w0.heap.size ρ v v') :
    ∃ ρ', ρ.le ρ' ∧ ρ' σ.size = some ⟨w.heap.size, 0, C.size, esz⟩ ∧ ARel w0 ρ' (σ.push ⟨esz, cs⟩) { w with heap := w.heap.push (.cells C e) } := by
  have hfree : ρ σ.size = none := by
    cases hx : ρ σ.size with
    | none => rfl
    | some l => have := (h.loc _ _ hx).2.1; omega
  let ρ' : Ren := fun i => if i = σ.size then some ⟨w.heap.size, 0, C.size, esz⟩ else ρ i
  have hle : ρ.le ρ' := fun i l hi => by
    show (if i = σ.size then _ else ρ i) = some l
    rw [if_neg (fun e => by rw [e, hfree] at hi; cases hi)]; exact hi
  have hb : σ.base = w0.heap.size := h.base
  have hsz := σ.hle
  have hws := h.wsize
  have hget : ∀ (b : Nat) (o : Obj), w.heap[b]? = some o → (w.heap.push (Obj.cells C e))[b]? = some o := fun b o hbo => by
    rw [Array.getElem?_push, if_neg (by have := lt_of_get hbo; omega)]; exact hbo
  have hnew : (w.heap.push (Obj.cells C e))[w.heap.size]? = some (.cells C e (0, 0)) := by rw [Array.getElem?_push, if_pos rfl]
  refine ⟨ρ', hle, by simp [ρ'], ?_⟩
  refine ⟨h.base, h.below.trans ⟨rfl, rfl, rfl, by simp, fun k hk => ?_⟩, ?_, ?_, ?_, ?_, ?_, ?_⟩
  · show (w.heap.push _)[k]? = _
    rw [Array.getElem?_push, if_neg (by omega)]
  · intro i l hi
    simp only [ρ'] at hi
    split at hi
    · rename_i hi'
      cases hi
      subst hi'
      exact ⟨by omega, by simp [Heap.push], hws, C, e, hnew, rfl⟩
    · obtain ⟨h1, h2, h3, C', e', h4, h5⟩ := h.loc i l hi
      exact ⟨h1, by simp [Heap.push]; omega, h3, C', e', hget _ _ h4, h5⟩
  · intro i l hi
    simp only [ρ'] at hi
    simp only [Heap.push]
    split at hi
    · rename_i hi'
      cases hi
      rw [if_pos hi']
    · rename_i hi'
      rw [if_neg hi']; exact h.esz i l hi
  · intro i hi
    simp only [Heap.push]
    rw [if_neg (by omega)]; exact h.old i hi
  · intro i hi hne
    simp only [Heap.push] at hne ⊢
    by_cases hi' : i = σ.size
    · simp only [hi', if_true] at hne ⊢
      refine ⟨⟨w.heap.size, 0, C.size, esz⟩, C, e, by simp [ρ'], rfl, hnew, rfl, fun j v hj => ?_⟩
      obtain ⟨v', h1, h2⟩ := hc j v hj
      exact ⟨v', by simpa using h1, h2.mono hle⟩
    · simp only [hi', if_false] at hne ⊢
      obtain ⟨l, C', e', h1, h2, h3, h4, h5⟩ := h.new i hi hne
      refine ⟨l, C', e', hle _ _ h1, h2, hget _ _ h3, h4, fun j v hj => ?_⟩
      obtain ⟨v', h6, h7⟩ := h5 j v hj
      exact ⟨v', h6, h7.mono hle⟩
  · intro i j l k hij hi hj hl1 hl2
    simp only [Heap.push] at hi hj
    simp only [ρ'] at hl1 hl2
    by_cases hi' : i = σ.size
    · rw [if_pos hi'] at hl1
      rw [if_neg (by omega)] at hl2
      cases hl1
      obtain ⟨_, _, _, C', e', h4, _⟩ := h.loc j k hl2
      have := lt_of_get h4
      intro hh
      simp at hh
      omega
    · rw [if_neg hi'] at hl1 hi
      by_cases hj' : j = σ.size
      · rw [if_pos hj'] at hl2
        cases hl2
        obtain ⟨_, _, _, C', e', h4, _⟩ := h.loc i l hl1
        have := lt_of_get h4
        intro hh
        simp at hh
        omega
      · rw [if_neg hj'] at hl2 hj
        exact h.inj i j l k hij hi hj hl1 hl2
  · intro i hi
    simp only [Heap.push] at hi ⊢
    rw [if_neg (by omega)]
    exact h.top i (by omega)

/-- A block is forgotten. -/
theorem ARel.kill {w0 : World} {ρ : Ren} {σ : Heap} {w : World} (h : ARel w0 ρ σ w) (id : Nat) (hid : σ.base ≤ id) : ARel w0 ρ (σ.put id []) w := by
  refine ⟨h.base, h.below, h.loc, ?_, ?_, ?_, ?_, ?_⟩
  · intro i l hi
    simp only [Heap.put]
    split
    · rename_i hi'; rw [h.esz i l hi, hi']
    · exact h.esz i l hi
  · intro i hi
    simp only [Heap.put]
    have hb := h.base
    rw [if_neg (by omega)]; exact h.old i hi
  · intro i hi hne
    simp only [Heap.put] at hne ⊢
    by_cases hi' : i = id
    · simp [hi'] at hne
    · simp only [hi', if_false] at hne ⊢
      exact h.new i hi hne
  · intro i j l k hij hi hj
    simp only [Heap.put] at hi hj
    by_cases hi' : i = id
    · simp [hi'] at hi
    · by_cases hj' : j = id
      · simp [hj'] at hj
      · simp only [hi', hj', if_false] at hi hj
        exact h.inj i j l k hij hi hj
  · intro i hi
    simp only [Heap.put]
    split
    · rfl
    · exact h.top i hi

theorem setCell_heap (w : World) (b o : Nat) (v : Value) (k : Nat) : (w.setCell ⟨b, o, none⟩ v).heap[k]? = (if b = k then w.heap[k]?.map (fun
      | .cells c elem frozen => .cells (c.setIfInBounds o v) elem frozen
      | o => o) else w.heap[k]?) := by
  simp only [World.setCell, Array.getElem?_modify]
  by_cases h : b = k
  · rw [if_pos h, if_pos h]
    congr 1
  · rw [if_neg h, if_neg h]

/-- A cell of a block of the call's own is written. -/
theorem ARel.setCell {w0 : World} {ρ : Ren} {σ : Heap} {w : World} (h : ARel w0 ρ σ w) {id : Nat} {l : Loc} (hl : ρ id = some l) (hne : (σ.blk id).cells ≠ [])
    (o : Nat) (v v' : Value) (hv : VRel w0.heap.size ρ v v') : ARel w0 ρ (σ.put id ((σ.blk id).cells.set o v)) (w.setCell ⟨l.blk, l.off + o, none⟩ v') := by
  have hb := h.base
  obtain ⟨hid, hidS, hlb, Cl, el, hCl, hCs⟩ := h.loc id l hl
  have hcell : ∀ (b : Nat) (C : Array Value) (e : TypeId), w.heap[b]? = some (.cells C e (0, 0)) → (w.setCell ⟨l.blk, l.off + o, none⟩ v').heap[b]? = some (.cells (if l.blk = b then C.setIfInBounds (l.off + o) v' else C) e (0, 0)) := by
    intro b C e hbC
    rw [setCell_heap]
    by_cases hbb : l.blk = b
    · rw [if_pos hbb, if_pos hbb, hbC]; rfl
    · rw [if_neg hbb, if_neg hbb, hbC]
  refine ⟨h.base, h.below.trans ⟨rfl, rfl, rfl, by simp [World.setCell], fun k hk => ?_⟩, ?_, ?_, ?_, ?_, ?_, ?_⟩
  · rw [setCell_heap, if_neg (by omega)]
  · intro i l' hi
    obtain ⟨h1, h2, h3, C, e, h4, h5⟩ := h.loc i l' hi
    refine ⟨h1, h2, h3, _, e, hcell _ _ _ h4, ?_⟩
    split <;> simp [h5]
  · intro i l' hi
    simp only [Heap.put]
    split
    · rename_i hi'; rw [h.esz i l' hi, hi']
    · exact h.esz i l' hi
  · intro i hi
    simp only [Heap.put]
    rw [if_neg (by omega)]; exact h.old i hi
  · intro i hi hn
    simp only [Heap.put] at hn ⊢
    by_cases hi' : i = id
    · subst hi'
      simp only [if_true] at hn ⊢
      obtain ⟨l', C, e, h1, h2, h3, h4, h5⟩ := h.new i hi hne
      rw [hl] at h1
      cases h1
      refine ⟨l, _, e, hl, h2, hcell _ _ _ h3, by simp [h4], fun j x hj => ?_⟩
      rw [if_pos rfl]
      rw [List.getElem?_set] at hj
      by_cases hoj : o = j
      · subst hoj
        rw [if_pos rfl] at hj
        split at hj
        · rename_i hlt
          cases hj
          obtain ⟨v0, h6, _⟩ := h5 o _ (List.getElem?_eq_getElem hlt)
          have : l.off + o < C.size := (Array.getElem?_eq_some_iff.1 h6).1
          exact ⟨v', by simp [this], hv⟩
        · cases hj
      · rw [if_neg hoj] at hj
        obtain ⟨v0, h6, h7⟩ := h5 j x hj
        exact ⟨v0, by rw [Array.getElem?_setIfInBounds, if_neg (by omega)]; exact h6, h7⟩
    · simp only [hi', if_false] at hn ⊢
      obtain ⟨l', C, e, h1, h2, h3, h4, h5⟩ := h.new i hi hn
      have hne' : l.blk ≠ l'.blk := h.inj id i l l' (fun e => hi' e.symm) hne hn hl h1
      refine ⟨l', _, e, h1, h2, hcell _ _ _ h3, by rw [if_neg hne']; exact h4, fun j x hj => ?_⟩
      rw [if_neg hne']
      exact h5 j x hj
  · intro i j l1 k hij hi hj h1 h2
    have hnn : ∀ q, ((σ.put id ((σ.blk id).cells.set o v)).blk q).cells ≠ [] → (σ.blk q).cells ≠ [] := by
      intro q hq
      simp only [Heap.put] at hq
      by_cases hq' : q = id
      · rw [hq']; exact hne
      · simpa [hq'] using hq
    exact h.inj i j l1 k hij (hnn _ hi) (hnn _ hj) h1 h2
  · intro i hi
    simp only [Heap.put]
    split
    · rename_i hi'
      exfalso
      rw [hi'] at hi
      change σ.size ≤ id at hi
      omega
    · exact h.top i hi

/-- Cells written one behind the other. -/
def wset (w : World) (b o : Nat) : List Value → World
  | [] => w
  | v :: vs => wset (w.setCell ⟨b, o, none⟩ v) b (o + 1) vs
theorem wset_plain (b : Nat) : ∀ (vs : List Value) (w : World) (o : Nat), (wset w b o vs).os = w.os ∧ (wset w b o vs).tape = w.tape ∧ (wset w b o vs).output = w.output ∧ (wset w b o vs).heap.size = w.heap.size
  | [], _, _ => ⟨rfl, rfl, rfl, rfl⟩
  | v :: vs, w, o => by
    obtain ⟨h1, h2, h3, h4⟩ := wset_plain b vs (w.setCell ⟨b, o, none⟩ v) (o + 1)
    exact ⟨h1, h2, h3, by rw [wset, h4]; simp [World.setCell]⟩
theorem wset_other (b k : Nat) (hk : b ≠ k) : ∀ (vs : List Value) (w : World) (o : Nat), (wset w b o vs).heap[k]? = w.heap[k]?
  | [], _, _ => rfl
  | v :: vs, w, o => by rw [wset, wset_other b k hk vs, setCell_heap, if_neg hk]
theorem wset_get (b : Nat) (e : TypeId) (fr : Nat × Nat) : ∀ (vs : List Value) (w : World) (o : Nat) (C : Array Value), w.heap[b]? = some (.cells C e fr) →
    ∃ C', (wset w b o vs).heap[b]? = some (.cells C' e fr) ∧ C'.size = C.size ∧ ∀ k, C'[k]? = if o ≤ k ∧ k < o + vs.length ∧ k < C.size then vs[k - o]? else C[k]?
  | [], w, o, C, h => ⟨C, h, rfl, fun k => by rw [if_neg (by simp; omega)]⟩
  | v :: vs, w, o, C, h => by
    obtain ⟨C', h1, h2, h3⟩ := wset_get b e fr vs (w.setCell ⟨b, o, none⟩ v) (o + 1) (C.setIfInBounds o v) (by rw [setCell_heap, if_pos rfl, h]; rfl)
    refine ⟨C', h1, by simpa using h2, fun k => ?_⟩
    rw [h3 k]
    simp only [Array.size_setIfInBounds, List.length_cons]
    by_cases hk : o = k
    · subst hk
      rw [if_neg (by omega), Array.getElem?_setIfInBounds, if_pos rfl]
      by_cases hs : o < C.size
      · rw [if_pos hs, if_pos ⟨by omega, by omega, hs⟩]; simp
      · rw [if_neg hs, if_neg (by omega)]; simp [Array.getElem?_eq_none (Nat.le_of_not_lt hs)]
    · rw [Array.getElem?_setIfInBounds, if_neg hk]
      by_cases hc : o + 1 ≤ k ∧ k < o + 1 + vs.length ∧ k < C.size
      · rw [if_pos hc, if_pos (by omega), show k - o = (k - (o + 1)) + 1 by omega]; rfl
      · rw [if_neg hc, if_neg (by omega)]
theorem setCells_length : ∀ (vs l : List Value) (o : Nat), (setCells l o vs).length = l.length
  | [], _, _ => rfl
  | v :: vs, l, o => by rw [setCells, setCells_length vs]; simp
theorem put_put (σ : Heap) (id : Nat) (x y : List Value) : (σ.put id x).put id y = σ.put id y := by
  simp only [Heap.put]
  congr 1
  funext i
  split <;> simp_all
theorem put_same (σ : Heap) (id : Nat) : σ.put id (σ.blk id).cells = σ := by
  simp only [Heap.put]
  cases σ
  congr 1
  funext i
  dsimp only
  split
  · rename_i h; subst h; rfl
  · rfl
theorem ne_nil_of_length {l l' : List Value} (h : l.length = l'.length) (hn : l ≠ []) : l' ≠ [] := by
  intro e; rw [e] at h; exact hn (List.eq_nil_of_length_eq_zero h)
theorem ARel.setCells {w0 : World} {ρ : Ren} {id : Nat} {l : Loc} (hl : ρ id = some l) : ∀ (vs vs' : List Value) (σ : Heap) (w : World) (o : Nat), ARel w0 ρ σ w → (σ.blk id).cells ≠ [] →
    LRel w0.heap.size ρ vs vs' → ARel w0 ρ (σ.put id (setCells (σ.blk id).cells o vs)) (wset w l.blk (l.off + o) vs')
  | [], [], σ, w, o, h, _, _ => by rw [AH.setCells, put_same]; exact h
  | [], v' :: vs', _, _, _, _, _, hr => by have := hr.1; simp at this
  | v :: vs, [], _, _, _, _, _, hr => by have := hr.1; simp at this
  | v :: vs, v' :: vs', σ, w, o, h, hne, hr => by
    have h1 := h.setCell hl hne o v v' (hr.2 0 _ _ rfl rfl)
    have e : ((σ.put id ((σ.blk id).cells.set o v)).blk id).cells = (σ.blk id).cells.set o v := by simp [Heap.put]
    have h2 := ARel.setCells hl vs vs' _ _ (o + 1) h1 (by rw [e]; exact ne_nil_of_length (by simp) hne) ⟨by have := hr.1; simpa using this, fun i x x' a b => hr.2 (i + 1) x x' (by simpa using a) (by simpa using b)⟩
    rw [e, put_put] at h2
    exact h2

/-- An append within the room of a block: the old block is forgotten, a new one stands for it. -/
theorem ARel.grow {w0 : World} {ρ : Ren} {σ : Heap} {w : World} (h : ARel w0 ρ σ w) {id : Nat} {l : Loc} (hl : ρ id = some l) (hne : (σ.blk id).cells ≠ []) (o m : Nat)
    (hpre : o + m ≤ (σ.blk id).cells.length) (src src' : List Value) (hs : LRel w0.heap.size ρ src src') (hroom : l.off + o + m + src.length ≤ l.size) :
    ∃ ρ', ρ.le ρ' ∧ ρ' σ.size = some ⟨l.blk, l.off + o, l.size, l.esz⟩ ∧
      ARel w0 ρ' ((σ.put id []).push ⟨l.esz, ((σ.blk id).cells.drop o).take m ++ src⟩) (wset w l.blk (l.off + o + m) src') := by
  have hfree : ρ σ.size = none := by
    cases hx : ρ σ.size with
    | none => rfl
    | some l => have := (h.loc _ _ hx).2.1; omega
  have hb : σ.base = w0.heap.size := h.base
  have hsz := σ.hle
  obtain ⟨hid, hidS, hlb, Cl, el, hCl, hCs⟩ := h.loc id l hl
  let ρ' : Ren := fun i => if i = σ.size then some ⟨l.blk, l.off + o, l.size, l.esz⟩ else ρ i
  have hle : ρ.le ρ' := fun i l' hi => by
    show (if i = σ.size then _ else ρ i) = some l'
    rw [if_neg (fun e => by rw [e, hfree] at hi; cases hi)]; exact hi
  obtain ⟨w1, w2, w3, w4⟩ := wset_plain l.blk src' w (l.off + o + m)
  obtain ⟨C', hC1, hC2, hC3⟩ := wset_get l.blk el (0, 0) src' w (l.off + o + m) Cl hCl
  have hbl : ∀ q, (((σ.put id []).push ⟨l.esz, ((σ.blk id).cells.drop o).take m ++ src⟩).blk q) = if q = σ.size then ⟨l.esz, ((σ.blk id).cells.drop o).take m ++ src⟩ else if q = id then ⟨(σ.blk id).esz, []⟩ else σ.blk q := fun q => rfl
  have hother : ∀ (i : Nat), i ≠ σ.size → (((σ.put id []).push ⟨l.esz, ((σ.blk id).cells.drop o).take m ++ src⟩).blk i).cells ≠ [] → i ≠ id ∧ (σ.blk i).cells ≠ [] ∧ ((σ.put id []).push ⟨l.esz, ((σ.blk id).cells.drop o).take m ++ src⟩).blk i = σ.blk i := by
    intro i hi hn
    rw [hbl, if_neg hi] at hn ⊢
    by_cases hii : i = id
    · rw [if_pos hii] at hn; exact absurd rfl hn
    · rw [if_neg hii] at hn ⊢; exact ⟨hii, hn, rfl⟩
  refine ⟨ρ', hle, by simp [ρ'], ?_⟩
  refine ⟨h.base, h.below.trans ⟨w1, w2, w3, by omega, fun k hk => wset_other _ _ (by omega) _ _ _⟩, ?_, ?_, ?_, ?_, ?_, ?_⟩
  · intro i l' hi
    simp only [ρ'] at hi
    split at hi
    · rename_i hi'
      cases hi
      subst hi'
      exact ⟨by omega, by simp [Heap.push, Heap.put], hlb, C', el, hC1, by rw [hC2, hCs]⟩
    · obtain ⟨h1, h2, h3, C2, e2, h4, h5⟩ := h.loc i l' hi
      refine ⟨h1, by simp [Heap.push, Heap.put]; omega, h3, ?_⟩
      by_cases hbb : l.blk = l'.blk
      · rw [← hbb] at h4 ⊢
        rw [hCl] at h4
        cases h4
        exact ⟨C', el, hC1, by rw [hC2, h5]⟩
      · exact ⟨C2, e2, by rw [wset_other _ _ hbb]; exact h4, h5⟩
  · intro i l' hi
    simp only [ρ'] at hi
    rw [hbl]
    split at hi
    · rename_i hi'
      cases hi
      rw [if_pos hi']
    · rename_i hi'
      rw [if_neg hi']
      split
      · rename_i hii; rw [h.esz i l' hi, hii]
      · exact h.esz i l' hi
  · intro i hi
    rw [hbl, if_neg (by omega), if_neg (by omega)]; exact h.old i hi
  · intro i hi hn
    by_cases hi' : i = σ.size
    · subst hi'
      refine ⟨⟨l.blk, l.off + o, l.size, l.esz⟩, C', el, by simp [ρ'], by rw [hbl, if_pos rfl], hC1, by rw [hC2, hCs], fun j v hj => ?_⟩
      rw [hbl, if_pos rfl] at hj
      obtain ⟨l2, C2, e2, g1, g2, g3, g4, g5⟩ := h.new id hid hne
      rw [hl] at g1; cases g1
      rw [hCl] at g3; cases g3
      have hpl : (((σ.blk id).cells.drop o).take m).length = m := by simp; omega
      show ∃ v', C'[l.off + o + j]? = some v' ∧ _
      by_cases hjm : j < m
      · rw [List.getElem?_append_left (by omega), List.getElem?_take, if_pos hjm, List.getElem?_drop] at hj
        obtain ⟨v', a1, a2⟩ := g5 _ _ hj
        refine ⟨v', ?_, a2.mono hle⟩
        rw [hC3, if_neg (by omega), ← a1]
        congr 1; omega
      · rw [List.getElem?_append_right (by omega), hpl] at hj
        obtain ⟨v', a1, a2⟩ := hs.get hj
        have hjl : j - m < src.length := (List.getElem?_eq_some_iff.1 hj).1
        refine ⟨v', ?_, a2.mono hle⟩
        rw [hC3, if_pos ⟨by omega, by have := hs.1; omega, by omega⟩, ← a1]
        congr 1; omega
    · obtain ⟨hii, hn2, heq⟩ := hother i hi' hn
      rw [heq]
      obtain ⟨l2, C2, e2, g1, g2, g3, g4, g5⟩ := h.new i hi hn2
      have hnb : l.blk ≠ l2.blk := h.inj id i l l2 (fun e => hii e.symm) hne hn2 hl g1
      refine ⟨l2, C2, e2, hle _ _ g1, g2, by rw [wset_other _ _ hnb]; exact g3, g4, fun j v hj => ?_⟩
      obtain ⟨v', a1, a2⟩ := g5 j v hj
      exact ⟨v', a1, a2.mono hle⟩
  · intro i j l1 k hij hi hj h1 h2
    simp only [ρ'] at h1 h2
    by_cases hi' : i = σ.size
    · rw [if_pos hi'] at h1
      cases h1
      rw [if_neg (by omega)] at h2
      obtain ⟨hii, hn2, -⟩ := hother j (by omega) hj
      exact h.inj id j l k (fun e => hii e.symm) hne hn2 hl h2
    · rw [if_neg hi'] at h1
      obtain ⟨hii, hn2, -⟩ := hother i hi' hi
      by_cases hj' : j = σ.size
      · rw [if_pos hj'] at h2
        cases h2
        exact h.inj i id l1 l hii hn2 hne h1 hl
      · rw [if_neg hj'] at h2
        obtain ⟨_, hn3, -⟩ := hother j hj' hj
        exact h.inj i j l1 k hij hn2 hn3 h1 h2
  · intro i hi
    rw [hbl, if_neg (by simp [Heap.push, Heap.put] at hi; omega)]
    split
    · rfl
    · exact h.top i (by simp [Heap.push, Heap.put] at hi; omega)
end Go.AH
