/- Reading a law's arguments out of the world: slices of whole numbers, sizes. -/
import Derived.Test.YtennnifijepfhaaAhO
import Derived.WalkKit
import Derived.ProofKit
import Derived.OpenShut
import Derived.ShutString
import Derived.ChangeOld
import Derived.SizedLaws
import Derived.ChangeSlices
import Derived.DataReads
import Derived.Carry
namespace Go.AH
open Go.ChangeShapes Go.WideShapes Go.ChangeAt Go.RowKit
open Go.ChangeMaps (open_string shut_string)
set_option linter.unusedVariables false
theorem sized_ints {H : Type} {enc : TypeId × Value → H} {P : Program} {W : World} {base : Nat} {spare : Nat → Bool} {held : Bool} {t e : TypeId} {k : IntKind} {a : Option Addr} {len cap : Nat} {d : DataW H} {ps : List MemPlace} {ts : List TypeId} {ds : List (DataW H)} {j : Nat}
    (hsz : (DataW.weightsEach P ts ds).all (· ≤ reachBytes) = true) (ht : ts[j]? = some t) (hd : ds[j]? = some d) (hu : P.underlying t = some (.slice e)) (he : P.underlying e = some (.int k)) (hc : P.cellsOf e = 1) {B : Nat} (hB : P.bytesOf e = B)
    (h : DataW.Trod enc P W base spare held t (.slice a len cap) d ps) : len * B ≤ 140737488351232 := by
  obtain ⟨fuel, hf⟩ := h
  rcases open_ints hu he hc hf with ⟨hcs, _⟩ | ⟨x, l, c, zs, hcs, _, hl, _, hz, hx, _, _⟩
  · simp [Value.cells] at hcs
    obtain ⟨rfl, rfl, rfl⟩ := hcs
    simp
  · simp [Value.cells] at hcs
    obtain ⟨rfl, rfl, rfl⟩ := hcs
    obtain ⟨hx, _⟩ := Prod.mk.inj hx
    subst hx
    have z := sized_slice hsz ht hd hu
    rw [hB] at z
    have hl2 : len ≤ zs.length := by
      rw [hz]
      split
      · exact hl
      · exact Nat.le_refl _
    have h1 : (lits (H := H) k (zs.take len)).length + (lits (H := H) k (zs.drop len)).length = zs.length := by
      simp [lits]
      omega
    rw [h1] at z
    exact Nat.le_trans (Nat.mul_le_mul_right _ hl2) z
def IsRow (k : IntKind) (w : World) (a : Option Addr) (len cap : Nat) (zs : List Int) : Prop :=
  (a = none ∧ len = 0 ∧ cap = 0 ∧ zs = []) ∨
  ∃ x, a = some x ∧ len ≤ cap ∧ cap ≤ maxLen ∧ zs.length = cap ∧ (∀ i, i < zs.length → w.cell? (x.add i) = some (.int k (zs.getD i 0))) ∧ ∀ n ∈ zs, (Lit.int k n).wf = true
theorem old_cell {W : World} {b o : Nat} {v : Value} (h : W.cell? ⟨b, o, none⟩ = some v) (hv : VRel W.heap.size (fun _ => none) v v) : ((heap0 W).blk b).cells[o]? = some v := by
  show (oldBlk W b)[o]? = some v
  unfold oldBlk
  unfold World.cell? at h
  cases hb : W.heap[b]? with
  | none => rw [hb] at h; cases h
  | some x =>
    rw [hb] at h
    cases x with
    | cells C e fr =>
      simp only [Option.isSome_none, Bool.false_eq_true, if_false] at h
      simp only [List.getElem?_map, Array.getElem?_toList, h, Option.map_some, san_eq hv]
    | _ => cases h
theorem cell_lt {W : World} {a : Addr} {v : Value} (h : W.cell? a = some v) : a.block < W.heap.size ∧ a.spot = none := by
  unfold World.cell? at h
  cases hb : W.heap[a.block]? with
  | none => rw [hb] at h; cases h
  | some x =>
    refine ⟨(Array.getElem?_eq_some_iff.1 hb).1, ?_⟩
    rw [hb] at h
    cases x with
    | cells C e fr =>
      simp only at h
      split at h
      · cases h
      · rename_i hs
        cases hsp : a.spot with
        | none => rfl
        | some q => rw [hsp] at hs; simp at hs
    | _ => cases h
theorem ints_of {W : World} {a : Option Addr} {len cap : Nat} {zs : List Int} (h : IsRow .i64 W a len cap zs) : Ints (heap0 W) (.slice a len cap) (zs.take len) ∧ VRel W.heap.size (fun _ => none) (.slice a len cap) (.slice a len cap) := by
  rcases h with ⟨rfl, rfl, rfl, rfl⟩ | ⟨x, rfl, hl, hm, hz, hc, _⟩
  · exact ⟨Sl.nil _ _ _, .sl0⟩
  · have hlen : (zs.take len).length = len := by simp; omega
    by_cases h0 : cap = 0
    · subst h0
      have : len = 0 := by omega
      subst this
      exact ⟨⟨.inl ⟨rfl, _, _, rfl, fun h => by cases h⟩⟩, .sl _ _ _ _ _ id (Nat.le_refl _) (.inl rfl)⟩
    · have hx0 := hc 0 (by omega)
      have e0 : x.add 0 = x := by unfold Addr.add; simp
      rw [e0] at hx0
      obtain ⟨hb, hs⟩ := cell_lt hx0
      have hx : x = ⟨x.block, x.off, none⟩ := addr_eta hs
      constructor
      · by_cases hl0 : len = 0
        · subst hl0
          exact ⟨.inl ⟨rfl, _, _, rfl, fun h => by cases h⟩⟩
        refine ⟨.inr ⟨by omega, x.block, x.off, cap, by rw [hlen, ← hx], by omega, hb, fun h => ?_, fun i y hy => ⟨_, rfl, rfl, fun j c' hj => ?_⟩⟩⟩
        · have : W.heap.size ≤ x.block := h
          omega
        · cases j with
          | zero =>
            simp at hj
            subst hj
            rw [List.getElem?_take] at hy
            split at hy
            · have hi : i < zs.length := (List.getElem?_eq_some_iff.1 hy).1
              have := hc i hi
              rw [hx, addr_add] at this
              have e : zs.getD i 0 = y := by simp [List.getD_eq_getElem?_getD, hy]
              rw [e] at this
              simpa using old_cell this (.int _ _)
            · cases hy
          | succ j => simp at hj
      · refine .sl _ _ _ _ _ id hl (.inr ⟨⟨hs, hs, .inl ⟨hb, rfl⟩⟩, fun hbb => ?_⟩)
        omega

/-- The range of Go's int. -/
def I64 (n : Int) : Prop := -9223372036854775808 ≤ n ∧ n ≤ 9223372036854775807
/-- What a type's cells in a law's arguments read as. -/
def Reads {α : Type} (P : Program) (t : TypeId) (R : Heap → α → List Value → List Nat → Prop) (p : α → Prop) : Prop :=
  ∀ {H : Type} {enc : TypeId × Value → H} {W : World} {fuel : Nat} {cs : List Value} {x : DataW H × List MemPlace}, DataW.trod enc P W 0 (fun _ => true) true fuel t cs = some x →
    (∃ a f, R (heap0 W) a cs f ∧ p a) ∧ ∀ c ∈ cs, VRel W.heap.size (fun _ => none) c c
theorem reads_int {P : Program} {t : TypeId} (ht : P.underlying t = some (.int .i64)) : Reads P t RIF I64 := by
  intro H enc W fuel cs x h
  obtain ⟨n, rfl, rfl, hw⟩ := DataW.trod_int ht h
  refine ⟨⟨n, [], ⟨rfl, rfl⟩, Go.bounds_i64 hw⟩, fun c hc => ?_⟩
  simp only [List.mem_cons, List.not_mem_nil, or_false] at hc
  subst hc
  exact .int _ _
/-- Bytes. -/
def RUF (_ : Heap) (x : Int) (cs : List Value) (f : List Nat) : Prop := cs = [.int .u8 x] ∧ f = []
theorem RUF_gd : Gd RUF := ⟨fun h _ _ _ => h, fun h i hi => absurd hi (by rw [h.2]; simp), fun h => by rw [h.1]; rfl⟩
theorem reads_byte {P : Program} {t : TypeId} (ht : P.underlying t = some (.int .u8)) : Reads P t RUF fun x => 0 ≤ x ∧ x ≤ 255 := by
  intro H enc W fuel cs x h
  obtain ⟨n, rfl, rfl, hw⟩ := DataW.trod_int ht h
  refine ⟨⟨n, [], ⟨rfl, rfl⟩, Go.bounds_u8 hw⟩, fun c hc => ?_⟩
  simp only [List.mem_cons, List.not_mem_nil, or_false] at hc
  subst hc
  exact .int _ _
def RBF (_ : Heap) (x : Bool) (cs : List Value) (f : List Nat) : Prop := cs = [.bool x] ∧ f = []
theorem RBF_gd : Gd RBF := ⟨fun h _ _ _ => h, fun h i hi => absurd hi (by rw [h.2]; simp), fun h => by rw [h.1]; rfl⟩
theorem reads_bool {P : Program} {t : TypeId} (ht : P.underlying t = some .bool) : Reads P t RBF fun _ => True := by
  intro H enc W fuel cs x h
  obtain ⟨n, rfl, rfl⟩ := DataW.trod_bool ht h
  refine ⟨⟨n, [], ⟨rfl, rfl⟩, trivial⟩, fun c hc => ?_⟩
  simp only [List.mem_cons, List.not_mem_nil, or_false] at hc
  subst hc
  exact .bool _
def PSl {α : Type} (p : α → Prop) (xs : List α) : Prop := xs.length ≤ 9223372036854775807 ∧ ∀ x ∈ xs, p x
theorem list_of {α : Type} (n : Nat) (q : Nat → α → Prop) (h : ∀ i, i < n → ∃ a, q i a) : ∃ xs : List α, xs.length = n ∧ ∀ i x, xs[i]? = some x → q i x := by
  induction n with
  | zero => exact ⟨[], rfl, fun i x hx => by simp at hx⟩
  | succ n ih =>
    obtain ⟨xs, hl, hq⟩ := ih fun i hi => h i (by omega)
    obtain ⟨a, ha⟩ := h n (by omega)
    refine ⟨xs ++ [a], by simp [hl], fun i x hx => ?_⟩
    by_cases hi : i < n
    · rw [List.getElem?_append_left (by omega)] at hx
      exact hq i x hx
    · rw [List.getElem?_append_right (by omega)] at hx
      have : i = n := by
        have := (List.getElem?_eq_some_iff.1 hx).1
        simp at this
        omega
      subst this
      simp [hl] at hx
      subst hx
      exact ha
theorem reads_slice {α : Type} {P : Program} {t e : TypeId} {R : Heap → α → List Value → List Nat → Prop} {p : α → Prop} {sz : Nat} (ht : P.underlying t = some (.slice e)) (hc : P.cellsOf e = sz) (hs : 0 < sz) (hR : Reads P e R p) : Reads P t (RSF R sz) (PSl p) := by
  intro H enc W fuel cs x h
  rcases DataW.trod_slice ht h with ⟨rfl, rfl⟩ | ⟨a, len, cap, elems, rest, n, _, rfl, rfl, hb, hl, hm, hlen, hel, hsp, hns⟩
  · refine ⟨⟨[], [], ⟨_, rfl, SlF.nil _ _ _⟩, by simp, by simp⟩, fun c hc => ?_⟩
    simp only [List.mem_cons, List.not_mem_nil, or_false] at hc
    subst hc
    exact .sl0
  obtain ⟨hrl, hr⟩ := hsp rfl
  have hm' : cap ≤ 9223372036854775807 := hm
  have at0 : 0 < cap → a.block < W.heap.size ∧ a.spot = none := by
    intro hp
    have key : ∃ y, (W.cells? 0 (a.add (0 * P.cellsOf e)) (P.cellsOf e)).bind (DataW.trod enc P W 0 (fun _ => true) true n e) = some y := by
      by_cases h0 : 0 < len
      · exact ⟨_, (hel 0 h0).trans (List.getElem?_eq_getElem (by omega))⟩
      · have e0 : len = 0 := by omega
        subst e0
        have := hr 0 (by omega)
        exact ⟨_, this.trans (List.getElem?_eq_getElem (by omega))⟩
    obtain ⟨y, hy⟩ := key
    obtain ⟨cs', h1, h2⟩ := Option.bind_eq_some_iff.1 hy
    obtain ⟨_, g2, g3⟩ := World.cells?_some h1
    have g4 := g3 0 (by omega)
    rw [List.getElem?_eq_getElem (show 0 < cs'.length by omega)] at g4
    have e0 : (a.add (0 * P.cellsOf e)).add 0 = a := by unfold Addr.add; simp
    rw [e0] at g4
    exact cell_lt g4
  have each : ∀ i, i < len → ∃ y : α × List Nat, (p y.1 ∧ ∃ cs', cs'.length = sz ∧ R (heap0 W) y.1 cs' y.2 ∧ ∀ j c', cs'[j]? = some c' → ((heap0 W).blk a.block).cells[a.off + i * sz + j]? = some c') := by
    intro i hi
    obtain ⟨hab, has⟩ := at0 (by omega)
    have := hel i hi
    rw [List.getElem?_eq_getElem (show i < elems.length by omega)] at this
    obtain ⟨cs', h1, h2⟩ := Option.bind_eq_some_iff.1 this
    obtain ⟨_, g2, g3⟩ := World.cells?_some h1
    obtain ⟨⟨y, f, hy, hpy⟩, hv⟩ := hR h2
    refine ⟨(y, f), hpy, cs', g2.trans hc, hy, fun j c' hj => ?_⟩
    have hj' : j < cs'.length := (List.getElem?_eq_some_iff.1 hj).1
    have g4 := g3 j (by omega)
    rw [hj] at g4
    have e1 : (a.add (i * P.cellsOf e)).add j = ⟨a.block, a.off + i * sz + j, none⟩ := by
      rw [hc]
      cases a
      simp at has
      subst has
      unfold Addr.add
      by_cases k0 : i * sz = 0 <;> by_cases k1 : j = 0 <;> simp [k0, k1, Nat.add_assoc]
    rw [e1] at g4
    exact old_cell g4 (hv c' (List.mem_of_getElem? hj))
  obtain ⟨xs, hxl, hxs⟩ := list_of len _ each
  have hlw : (xs.map (·.1)).length = len := by rw [List.length_map]; exact hxl
  constructor
  · have hp : PSl p (xs.map (·.1)) := ⟨by omega, fun y hy => by
      obtain ⟨i, hi⟩ := List.getElem?_of_mem hy
      rw [List.getElem?_map, Option.map_eq_some_iff] at hi
      obtain ⟨z, hz, rfl⟩ := hi
      exact (hxs i z hz).1⟩
    by_cases h0 : len = 0
    · have : xs = [] := List.length_eq_zero_iff.1 (by omega)
      subst this
      subst h0
      exact ⟨[], [], ⟨_, rfl, ⟨.inl ⟨rfl, rfl, _, _, rfl, fun h => by cases h⟩⟩⟩, hp⟩
    · obtain ⟨hab, has⟩ := at0 (by omega)
      have ha : a = ⟨a.block, a.off, none⟩ := addr_eta has
      refine ⟨xs.map (·.1), a.block :: (xs.map (·.2)).flatten, ⟨_, rfl, ⟨.inr ⟨by omega, a.block, a.off, cap, xs.map (·.2), by rw [hlw, ← ha], by omega, hab, fun h => ?_, rfl, by simp, fun i y f hy hf => ?_⟩⟩⟩, hp⟩
      · have : W.heap.size ≤ a.block := h
        omega
      · rw [List.getElem?_map, Option.map_eq_some_iff] at hy hf
        obtain ⟨z, hz, rfl⟩ := hy
        obtain ⟨z', hz', rfl⟩ := hf
        rw [hz] at hz'
        cases hz'
        exact (hxs i z hz).2
  · intro c hc
    simp only [List.mem_cons, List.not_mem_nil, or_false] at hc
    subst hc
    by_cases h0 : cap = 0
    · subst h0
      exact .sl _ _ _ _ _ id hl (.inl rfl)
    · obtain ⟨hab, has⟩ := at0 (by omega)
      exact .sl _ _ _ _ _ id hl (.inr ⟨⟨has, has, .inl ⟨hab, rfl⟩⟩, fun hbb => by omega⟩)
/-- A struct's fields, one by one. -/
theorem trod_fields {P : Program} {t : TypeId} {fs : Array Field} (ht : P.underlying t = some (.struct fs)) {H : Type} {enc : TypeId × Value → H} {W : World} {fuel : Nat} {cs : List Value} {x : DataW H × List MemPlace} (h : DataW.trod enc P W 0 (fun _ => true) true fuel t cs = some x) :
    cs.length = P.cellsOf t ∧ ∃ n, ∀ (i : Nat) (f : Field), fs[i]? = some f → ∃ y, DataW.trod enc P W 0 (fun _ => true) true n f.type ((cs.drop f.offset).take (P.cellsOf f.type)) = some y := by
  obtain ⟨xs, n, rfl, rfl, hl, hx, hf⟩ := DataW.trod_struct ht h
  refine ⟨hl, n, fun i f hi => ⟨_, (hf i f hi).trans (List.getElem?_eq_getElem ?_)⟩⟩
  have := (Array.getElem?_eq_some_iff.1 hi).1
  omega
theorem len_2 {l : List Value} (h : l.length = 2) : ∃ a b, l = [a, b] := by
  match l, h with
  | [a, b], _ => exact ⟨a, b, rfl⟩
theorem len_3 {l : List Value} (h : l.length = 3) : ∃ a b c, l = [a, b, c] := by
  match l, h with
  | [a, b, c], _ => exact ⟨a, b, c, rfl⟩
theorem len_4 {l : List Value} (h : l.length = 4) : ∃ a b c d, l = [a, b, c, d] := by
  match l, h with
  | [a, b, c, d], _ => exact ⟨a, b, c, d, rfl⟩
theorem len_5 {l : List Value} (h : l.length = 5) : ∃ a b c d e, l = [a, b, c, d, e] := by
  match l, h with
  | [a, b, c, d, e], _ => exact ⟨a, b, c, d, e, rfl⟩
theorem len_10 {l : List Value} (h : l.length = 10) : ∃ a b c d e f g i j k, l = [a, b, c, d, e, f, g, i, j, k] := by
  match l, h with
  | [a, b, c, d, e, f, g, i, j, k], _ => exact ⟨a, b, c, d, e, f, g, i, j, k, rfl⟩
/-- One field, read. -/
theorem reads_field {α : Type} {P : Program} {e : TypeId} {R : Heap → α → List Value → List Nat → Prop} {p : α → Prop} (hR : Reads P e R p) {sz : Nat} (hc : P.cellsOf e = sz) {H : Type} {enc : TypeId × Value → H} {W : World} {n : Nat} {cs : List Value} {f : Field} (hf : f.type = e)
    (h : ∃ y, DataW.trod enc P W 0 (fun _ => true) true n f.type ((cs.drop f.offset).take (P.cellsOf f.type)) = some y) : (∃ a g, R (heap0 W) a ((cs.drop f.offset).take sz) g ∧ p a) ∧ ∀ c ∈ (cs.drop f.offset).take sz, VRel W.heap.size (fun _ => none) c c := by
  obtain ⟨y, h⟩ := h
  rw [hf, hc] at h
  exact hR h

/-- An argument of a law. -/
theorem arg_slice {α : Type} {P : Program} {t e : TypeId} {R : Heap → α → List Value → List Nat → Prop} {p : α → Prop} {sz : Nat} {W : World} {v : Value} {H : Type} {enc : TypeId × Value → H} {d : DataW H} {ps : List MemPlace} {base : Nat}
    (hr : Reads P t (RSF R sz) (PSl p)) (ht : P.underlying t = some (.slice e)) (hv : Value.okWide P W .any base t v) (h : DataW.Trod enc P W 0 (fun _ => true) true t v d ps) : (∃ xs fp, SlF R sz (heap0 W) v xs fp ∧ PSl p xs) ∧ VRel W.heap.size (fun _ => none) v v := by
  obtain ⟨a, n, c, rfl⟩ := okWide_slice ht hv
  obtain ⟨fuel, hf⟩ := h
  obtain ⟨⟨xs, f, ⟨v, e, hs⟩, hp⟩, hv⟩ := hr hf
  simp [Value.cells] at e
  subst e
  exact ⟨⟨xs, f, hs, hp⟩, hv _ (by simp [Value.cells])⟩
theorem arg_int {P : Program} {t : TypeId} {W : World} {v : Value} {H : Type} {enc : TypeId × Value → H} {d : DataW H} {ps : List MemPlace} {base : Nat}
    (ht : P.underlying t = some (.int .i64)) (hv : Value.okWide P W .any base t v) (h : DataW.Trod enc P W 0 (fun _ => true) true t v d ps) : (∃ x, v = .int .i64 x ∧ I64 x) ∧ VRel W.heap.size (fun _ => none) v v := by
  obtain ⟨n, rfl⟩ := okWide_int ht hv
  obtain ⟨fuel, hf⟩ := h
  obtain ⟨⟨x, f, ⟨e, _⟩, hp⟩, _⟩ := reads_int ht hf
  simp [Value.cells] at e
  subst e
  exact ⟨⟨_, rfl, hp⟩, .int _ _⟩
theorem arg_struct {α : Type} {P : Program} {t : TypeId} {fs : Array Field} {R : Heap → α → List Value → List Nat → Prop} {p : α → Prop} {W : World} {v : Value} {H : Type} {enc : TypeId × Value → H} {d : DataW H} {ps : List MemPlace} {base : Nat}
    (hr : Reads P t R p) (ht : P.underlying t = some (.struct fs)) (hv : Value.okWide P W .any base t v) (h : DataW.Trod enc P W 0 (fun _ => true) true t v d ps) : (∃ a cs f, v = .agg cs ∧ R (heap0 W) a cs.toList f ∧ p a) ∧ VRel W.heap.size (fun _ => none) v v := by
  obtain ⟨cs, rfl, _⟩ := okWide_struct ht hv
  obtain ⟨fuel, hf⟩ := h
  obtain ⟨⟨a, f, ha, hp⟩, hv⟩ := hr hf
  refine ⟨⟨a, cs, f, rfl, ha, hp⟩, .agg _ _ rfl fun i x x' h1 h2 => ?_⟩
  have : x = x' := by rw [h1] at h2; exact Option.some.inj h2
  subst this
  exact hv x (by simpa [Value.cells] using Array.mem_of_getElem? h1)
end Go.AH
