/- Channels: how they lie in memory, and their copies and comparisons. -/
import Derived.Test.YtennnifijepfhaaCoCh
import Derived.Test.YtennnifijepfhaaAhP
import Derived.Test.YtennnifijepfhaaDtI
import Derived.Test.YtennnifijepfhaaExF
namespace Go.Proofs.Ytennnifijepfhaa
open Go Go.AH
set_option linter.unusedSimpArgs false
set_option linter.unusedVariables false
variable {w0 : World}
structure Chan where
  fr : Int
  to : Int
  st : Int
deriving DecidableEq
def RCh (_ : Heap) (x : Chan) (cs : List Value) (f : List Nat) : Prop := cs = [.int .i64 x.fr, .int .i64 x.to, .int .i64 x.st] ∧ f = []
theorem RCh_gd : Gd RCh := ⟨fun h _ _ _ => h, fun h i hi => absurd hi (by rw [h.2]; simp), fun h => by rw [h.1]; rfl⟩
theorem toChannel_ok (σ : Heap) (x : Chan) (cs : List Value) (f : List Nat) (h : RCh σ x cs f) : ACalls Try.prog w0 62 [elV true cs] σ fun v σ' => Ext σ σ' ∧ ∃ cs' f', v = elV true cs' ∧ cs'.length = 3 ∧ RCh σ' x cs' f' ∧ Fresh σ f' := by
  obtain ⟨rfl, rfl⟩ := h
  refine acalls_go hmix Try.func62 comp62 (Nat.le_of_ble_eq_true rfl) fun K hK => ?_
  have hb := σ.hle
  have hb1 (k : Nat) : σ.base ≤ σ.size + k := by omega
  simp [C62, elV, partA, readCells, setCells, push_blk, put_blk, hb, hb1, Nat.add_assoc]
  refine hK _ _ ⟨?_, _, [], rfl, rfl, ⟨rfl, rfl⟩, Fresh.nil _⟩
  repeat (first | exact Ext.refl _ | refine Ext.pushed ?_ _ | refine Ext.put ?_ (by simp; try omega) _)
theorem eqChannel_ok (σ : Heap) (x y : Chan) (cs : List Value) (f : List Nat) (ds : List Value) (e : List Nat) (h : RCh σ x cs f) (k : RCh σ y ds e) : ACalls Try.prog w0 63 [elV true cs, elV true ds] σ fun v σ' => v = .bool (decide (x = y)) ∧ Ext σ σ' := by
  obtain ⟨rfl, rfl⟩ := h
  obtain ⟨rfl, rfl⟩ := k
  refine acalls_go hmix Try.func63 comp63 (Nat.le_of_ble_eq_true rfl) fun K hK => ?_
  obtain ⟨x1, x2, x3⟩ := x
  obtain ⟨y1, y2, y3⟩ := y
  have hE : Ext σ ((σ.push ⟨3, [.int .i64 x1, .int .i64 x2, .int .i64 x3]⟩).push ⟨3, [.int .i64 y1, .int .i64 y2, .int .i64 y3]⟩) := ((Ext.refl _).pushed _).pushed _
  by_cases h1 : x1 = y1
  · by_cases h2 : x2 = y2
    · by_cases h3 : x3 = y3
      · simp [C63, elV, partA, push_blk, Nat.add_assoc, h1, h2, h3]
        exact hK _ _ ⟨by simp [h1, h2, h3], by simpa [h1, h2, h3] using hE⟩
      · simp [C63, elV, partA, push_blk, Nat.add_assoc, h1, h2, h3]
        exact hK _ _ ⟨by simp [h1, h2, h3], by simpa [h1, h2, h3] using hE⟩
    · simp [C63, elV, partA, push_blk, Nat.add_assoc, h1, h2]
      exact hK _ _ ⟨by simp [h1, h2], by simpa [h1, h2] using hE⟩
  · simp [C63, elV, partA, push_blk, Nat.add_assoc, h1]
    exact hK _ _ ⟨by simp [h1], by simpa [h1] using hE⟩
abbrev Chans (σ : Heap) (v : Value) (xs : List Chan) (fp : List Nat) : Prop := SlF RCh 3 σ v xs fp
theorem toChannelS_ok {σ : Heap} {v : Value} {xs : List Chan} {fp : List Nat} (h : Chans σ v xs fp) (hn : xs.length ≤ 1048576) : ACalls Try.prog w0 22 [v] σ fun v' σ' => Ext σ σ' ∧ ∃ fp', Chans σ' v' xs fp' ∧ Fresh σ fp' :=
  toF_ok hmix Try.func22 comp22 (bytes := 24) (z := [.int .i64 0, .int .i64 0, .int .i64 0]) (agg := true) (g := 62) rfl RCh_gd (by omega) rfl (.inl rfl) (by omega) (ok := fun _ => True)
    (fun σ x cs f h _ _ => toChannel_ok σ x cs f h) h (by omega) fun _ _ => trivial
theorem eqChannelS_ok {σ : Heap} {s t : Value} {L M : List Chan} {fp fq : List Nat} (h : Chans σ s L fp) (k : Chans σ t M fq) (hn : L.length ≤ 9223372036854775807) : ACalls Try.prog w0 24 [s, t] σ fun v σ' => v = .bool (decide (L = M)) ∧ Ext σ σ' :=
  eqF_ok hmix Try.func24 comp24 (agg := true) (g := 63) rfl RCh_gd (by omega) (.inl rfl) (ok := fun _ => True)
    (fun σ x y cs f ds e h k _ _ _ => eqChannel_ok σ x y cs f ds e h k) h k hn fun _ _ => trivial
theorem szChannelS_ok {σ : Heap} {s : Value} {L : List Chan} {fp : List Nat} (h : Chans σ s L fp) (hn : L.length ≤ 9223372036854775807) : ACalls Try.prog w0 20 [s, .int .i64 1048576] σ fun v σ' => v = .int .i64 (sub 1048576 L.length) ∧ σ' = σ := by
  obtain ⟨a, c, rfl⟩ := h.len
  exact szF0_ok hmix Try.func20 comp20 rfl hn (by omega) (by omega)
theorem reads_chan : Reads Try.prog 84 RCh fun x => I64 x.fr ∧ I64 x.to ∧ I64 x.st := by
  intro H enc W fuel cs x h
  have ⟨hl, n, hf⟩ := trod_fields Try.underlying84 h
  have hl' : cs.length = 3 := hl.trans (by kernel_rfl)
  obtain ⟨c0, c1, c2, rfl⟩ := len_3 hl'
  obtain ⟨⟨x0, g0, ⟨e0, _⟩, p0⟩, v0⟩ := reads_field reads_i ci1 rfl (hf 0 _ rfl)
  obtain ⟨⟨x1, g1, ⟨e1, _⟩, p1⟩, v1⟩ := reads_field reads_i ci1 rfl (hf 1 _ rfl)
  obtain ⟨⟨x2, g2, ⟨e2, _⟩, p2⟩, v2⟩ := reads_field reads_i ci1 rfl (hf 2 _ rfl)
  simp at e0 e1 e2 v0 v1 v2
  subst e0 e1 e2
  exact ⟨⟨⟨x0, x1, x2⟩, [], ⟨rfl, rfl⟩, p0, p1, p2⟩, by simp [v0, v1, v2]⟩
theorem reads_chans : Reads Try.prog 31 (RSF RCh 3) (PSl fun x : Chan => I64 x.fr ∧ I64 x.to ∧ I64 x.st) := reads_slice Try.underlying31 (by kernel_rfl) (by omega) reads_chan
end Go.Proofs.Ytennnifijepfhaa
