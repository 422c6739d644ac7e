/- Reading a law's arguments out of the world: slices of whole numbers, sizes. -/
import Derived.Test.YtennnifijepfhaaAhT
import Derived.WalkKit
import Derived.ProofKit
import Derived.OpenShut
import Derived.ShutString
import Derived.ChangeOld
import Derived.SizedLaws
import Derived.ChangeSlices
namespace Go.AH
open Go.ChangeShapes Go.WideShapes Go.ChangeAt Go.RowKit
open Go.ChangeMaps (open_string shut_string)
set_option linter.unusedVariables false
theorem sized_ints {H : Type} {enc : TypeId × Value → H} {P : Program} {W : World} {base : Nat} {spare : Nat → Bool} {held : Bool} {t e : TypeId} {k : IntKind} {a : Option Addr} {len cap : Nat} {d : DataW H} {ps : List MemPlace} {ts : List TypeId} {ds : List (DataW H)} {j : Nat}
    (hsz : (DataW.weightsEach P ts ds).all (· ≤ reachBytes) = true) (ht : ts[j]? = some t) (hd : ds[j]? = some d) (hu : P.underlying t = some (.slice e)) (he : P.underlying e = some (.int k)) (hc : P.cellsOf e = 1) {B : Nat} (hB : P.bytesOf e = B)
    (h : DataW.Trod enc P W base spare held t (.slice a len cap) d ps) : len * B ≤ 140737488351232 := by
  obtain ⟨fuel, hf⟩ := h
  rcases open_ints hu he hc hf with ⟨hcs, _⟩ | ⟨x, l, c, zs, hcs, _, hl, _, hz, hx, _, _⟩
  · simp [Value.cells] at hcs
    obtain ⟨rfl, rfl, rfl⟩ := hcs
    simp
  · simp [Value.cells] at hcs
    obtain ⟨rfl, rfl, rfl⟩ := hcs
    obtain ⟨hx, _⟩ := Prod.mk.inj hx
    subst hx
    have z := sized_slice hsz ht hd hu
    rw [hB] at z
    have hl2 : len ≤ zs.length := by
      rw [hz]
      split
      · exact hl
      · exact Nat.le_refl _
    have h1 : (lits (H := H) k (zs.take len)).length + (lits (H := H) k (zs.drop len)).length = zs.length := by
      simp [lits]
      omega
    rw [h1] at z
    exact Nat.le_trans (Nat.mul_le_mul_right _ hl2) z
def IsRow (k : IntKind) (w : World) (a : Option Addr) (len cap : Nat) (zs : List Int) : Prop :=
  (a = none ∧ len = 0 ∧ cap = 0 ∧ zs = []) ∨
  ∃ x, a = some x ∧ len ≤ cap ∧ cap ≤ maxLen ∧ zs.length = cap ∧ (∀ i, i < zs.length → w.cell? (x.add i) = some (.int k (zs.getD i 0))) ∧ ∀ n ∈ zs, (Lit.int k n).wf = true
theorem old_cell {W : World} {b o : Nat} {v : Value} (h : W.cell? ⟨b, o, none⟩ = some v) (hv : VRel W.heap.size (fun _ => none) v v) : ((heap0 W).blk b).cells[o]? = some v := by
  show (oldBlk W b)[o]? = some v
  unfold oldBlk
  unfold World.cell? at h
  cases hb : W.heap[b]? with
  | none => rw [hb] at h; cases h
  | some x =>
    rw [hb] at h
    cases x with
    | cells C e fr =>
      simp only [Option.isSome_none, Bool.false_eq_true, if_false] at h
      simp only [List.getElem?_map, Array.getElem?_toList, h, Option.map_some, san_eq hv]
    | _ => cases h
theorem cell_lt {W : World} {a : Addr} {v : Value} (h : W.cell? a = some v) : a.block < W.heap.size ∧ a.spot = none := by
  unfold World.cell? at h
  cases hb : W.heap[a.block]? with
  | none => rw [hb] at h; cases h
  | some x =>
    refine ⟨(Array.getElem?_eq_some_iff.1 hb).1, ?_⟩
    rw [hb] at h
    cases x with
    | cells C e fr =>
      simp only at h
      split at h
      · cases h
      · rename_i hs
        cases hsp : a.spot with
        | none => rfl
        | some q => rw [hsp] at hs; simp at hs
    | _ => cases h
theorem ints_of {W : World} {a : Option Addr} {len cap : Nat} {zs : List Int} (h : IsRow .i64 W a len cap zs) : Ints (heap0 W) (.slice a len cap) (zs.take len) ∧ VRel W.heap.size (fun _ => none) (.slice a len cap) (.slice a len cap) := by
  rcases h with ⟨rfl, rfl, rfl, rfl⟩ | ⟨x, rfl, hl, hm, hz, hc, _⟩
  · exact ⟨Sl.nil _ _ _, .sl0⟩
  · have hlen : (zs.take len).length = len := by simp; omega
    by_cases h0 : cap = 0
    · subst h0
      have : len = 0 := by omega
      subst this
      exact ⟨⟨.inl ⟨rfl, _, _, rfl, fun h => by cases h⟩⟩, .sl _ _ _ _ _ id (Nat.le_refl _) (.inl rfl)⟩
    · have hx0 := hc 0 (by omega)
      have e0 : x.add 0 = x := by unfold Addr.add; simp
      rw [e0] at hx0
      obtain ⟨hb, hs⟩ := cell_lt hx0
      have hx : x = ⟨x.block, x.off, none⟩ := addr_eta hs
      constructor
      · by_cases hl0 : len = 0
        · subst hl0
          exact ⟨.inl ⟨rfl, _, _, rfl, fun h => by cases h⟩⟩
        refine ⟨.inr ⟨by omega, x.block, x.off, cap, by rw [hlen, ← hx], by omega, hb, fun h => ?_, fun i y hy => ⟨_, rfl, rfl, fun j c' hj => ?_⟩⟩⟩
        · have : W.heap.size ≤ x.block := h
          omega
        · cases j with
          | zero =>
            simp at hj
            subst hj
            rw [List.getElem?_take] at hy
            split at hy
            · have hi : i < zs.length := (List.getElem?_eq_some_iff.1 hy).1
              have := hc i hi
              rw [hx, addr_add] at this
              have e : zs.getD i 0 = y := by simp [List.getD_eq_getElem?_getD, hy]
              rw [e] at this
              simpa using old_cell this (.int _ _)
            · cases hy
          | succ j => simp at hj
      · refine .sl _ _ _ _ _ id hl (.inr ⟨⟨hs, hs, .inl ⟨hb, rfl⟩⟩, fun hbb => ?_⟩)
        omega
end Go.AH
