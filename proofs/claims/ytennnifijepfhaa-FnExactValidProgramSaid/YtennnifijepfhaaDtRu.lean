/- Atoms and rules: how they lie in memory, and their copies and comparisons. -/
import Derived.Test.YtennnifijepfhaaCoRu
import Derived.Test.YtennnifijepfhaaDtI
namespace Go.Proofs.Ytennnifijepfhaa
open Go Go.AH
set_option linter.unusedSimpArgs false
set_option linter.unusedVariables false
set_option maxRecDepth 100000
variable {w0 : World}
structure At where
  p : Int
  x : Int
  y : Int
  n : Bool
deriving DecidableEq
abbrev At.cs (x : At) : List Value := [.int .i64 x.p, .int .i64 x.x, .int .i64 x.y, .bool x.n]
def RAt (_ : Heap) (x : At) (cs : List Value) (f : List Nat) : Prop := cs = x.cs ∧ f = []
theorem RAt_gd : Gd RAt := ⟨fun h _ _ _ => h, fun h i hi => absurd hi (by rw [h.2]; simp), fun h => by rw [h.1]; rfl⟩
theorem toAtom_ok (σ : Heap) (x : At) : ACalls Try.prog w0 95 [.agg x.cs.toArray] σ fun v σ' => v = .agg x.cs.toArray ∧ Ext σ σ' := by
  refine go95 fun K hK => ?_
  have hb := σ.hle
  have hb1 (k : Nat) : σ.base ≤ σ.size + k := by omega
  simp [H95, push_blk, put_blk, setCells, readCells, Nat.add_assoc, hb1]
  exact hK _ _ ⟨rfl, by repeat (first | assumption | exact Ext.refl _ | refine Ext.pushed ?_ _ | refine Ext.put ?_ (by simp; try omega) _)⟩
theorem toAtom_r (σ : Heap) (x : At) (cs : List Value) (f : List Nat) (h : RAt σ x cs f) : ACalls Try.prog w0 95 [elV true cs] σ fun v σ' => Ext σ σ' ∧ ∃ cs' f', v = elV true cs' ∧ cs'.length = 4 ∧ RAt σ' x cs' f' ∧ Fresh σ f' := by
  obtain ⟨rfl, rfl⟩ := h
  exact (toAtom_ok σ x).mono fun v σ' ⟨e, h⟩ => ⟨h, x.cs, [], e, rfl, ⟨rfl, rfl⟩, Fresh.nil _⟩
theorem eqAtom_ok (σ : Heap) (x y : At) : ACalls Try.prog w0 97 [.agg x.cs.toArray, .agg y.cs.toArray] σ fun v σ' => v = .bool (decide (x = y)) ∧ Ext σ σ' := by
  refine go97 fun K hK => ?_
  obtain ⟨x1, x2, x3, x4⟩ := x
  obtain ⟨y1, y2, y3, y4⟩ := y
  simp [H97, push_blk, Nat.add_assoc]
  by_cases h1 : x1 = y1
  case neg => simp [h1]; exact hK _ _ ⟨by simp [h1], by repeat (first | assumption | exact Ext.refl _ | refine Ext.pushed ?_ _ | refine Ext.put ?_ (by simp; try omega) _)⟩
  by_cases h2 : x2 = y2
  case neg => simp [h1, h2]; exact hK _ _ ⟨by simp [h1, h2], by repeat (first | assumption | exact Ext.refl _ | refine Ext.pushed ?_ _ | refine Ext.put ?_ (by simp; try omega) _)⟩
  by_cases h3 : x3 = y3
  case neg => simp [h1, h2, h3]; exact hK _ _ ⟨by simp [h1, h2, h3], by repeat (first | assumption | exact Ext.refl _ | refine Ext.pushed ?_ _ | refine Ext.put ?_ (by simp; try omega) _)⟩
  by_cases h4 : x4 = y4
  · simp [h1, h2, h3, h4]; exact hK _ _ ⟨by simp [h1, h2, h3, h4], by repeat (first | assumption | exact Ext.refl _ | refine Ext.pushed ?_ _ | refine Ext.put ?_ (by simp; try omega) _)⟩
  · simp [h1, h2, h3, h4]; exact hK _ _ ⟨by simp [h1, h2, h3, h4], by repeat (first | assumption | exact Ext.refl _ | refine Ext.pushed ?_ _ | refine Ext.put ?_ (by simp; try omega) _)⟩
abbrev Ats (σ : Heap) (v : Value) (xs : List At) (fp : List Nat) : Prop := SlF RAt 4 σ v xs fp
theorem toAtomS_ok {σ : Heap} {v : Value} {xs : List At} {fp : List Nat} (h : Ats σ v xs fp) (hn : xs.length ≤ 1048576) : ACalls Try.prog w0 96 [v] σ fun v' σ' => Ext σ σ' ∧ ∃ fp', Ats σ' v' xs fp' ∧ Fresh σ fp' :=
  toF_ok hmix Try.func96 comp96 (bytes := 32) (agg := true) (g := 95) (ok := fun _ => True) rfl RAt_gd (by omega) rfl (.inl rfl) (by omega)
    (fun σ x cs f h _ hx => toAtom_r σ x cs f h) h (by omega) (fun _ _ => trivial)
theorem eqAtomS_ok {σ : Heap} {s t : Value} {L M : List At} {fp fq : List Nat} (h : Ats σ s L fp) (k : Ats σ t M fq) (hn : L.length ≤ 9223372036854775807) : ACalls Try.prog w0 98 [s, t] σ fun v σ' => v = .bool (decide (L = M)) ∧ Ext σ σ' :=
  eqF_ok hmix Try.func98 comp98 (agg := true) (g := 97) (ok := fun _ => True) rfl RAt_gd (by omega) (.inl rfl)
    (fun σ x y cs f ds e h k _ _ hx => by obtain ⟨rfl, rfl⟩ := h; obtain ⟨rfl, rfl⟩ := k; exact eqAtom_ok σ x y) h k hn (fun _ _ => trivial)
structure Ru where
  h : At
  b : List At
deriving DecidableEq
def RRu (σ : Heap) (x : Ru) (cs : List Value) (f : List Nat) : Prop := ∃ v, cs = x.h.cs ++ [v] ∧ Ats σ v x.b f
theorem RRu_gd : Gd RRu := ⟨fun ⟨v, e, h⟩ h1 h2 h3 => ⟨v, e, h.frame RAt_gd h1 h2 h3⟩, fun ⟨v, e, h⟩ => h.ins RAt_gd, fun ⟨v, e, h⟩ => by
  obtain ⟨a, c, rfl⟩ := h.len
  rw [e]; rfl⟩
theorem toRule_ok (σ : Heap) (x : Ru) (cs : List Value) (f : List Nat) (h : RRu σ x cs f) (hn : x.b.length ≤ 1048576) : ACalls Try.prog w0 81 [elV true cs] σ fun v σ' => Ext σ σ' ∧ ∃ cs' f', v = elV true cs' ∧ cs'.length = 5 ∧ RRu σ' x cs' f' ∧ Fresh σ f' := by
  obtain ⟨v, rfl, hv⟩ := h
  refine go81 fun K hK => ?_
  have hb := σ.hle
  have hb1 (k : Nat) : σ.base ≤ σ.size + k := by omega
  obtain ⟨a, c, rfl⟩ := hv.len
  obtain ⟨x1, x2⟩ := x
  simp [H81, elV, readCells, setCells, push_blk, put_blk, hb, hb1, Nat.add_assoc]
  refine ret_ext (toAtom_ok _ x1) fun σ1 hE1 => ?_
  have b0 := hE1.blk σ.size (by simp [Nat.add_assoc])
  have b1 := hE1.blk (σ.size + 1) (by simp [Nat.add_assoc])
  have b2 := hE1.blk (σ.size + 2) (by simp [Nat.add_assoc])
  have hb' : σ1.base = σ.base := hE1.base
  have hs1 := hE1.size
  simp [push_blk, put_blk, Nat.add_assoc] at b0 b1 b2 hs1
  have hEσ : Ext σ σ1 := by
    refine Ext.trans ?_ hE1
    repeat (first | assumption | exact Ext.refl _ | refine Ext.pushed ?_ _ | refine Ext.put ?_ (by simp; try omega) _)
  simp [b0, b1, b2, hb', hb, hb1, readCells, setCells, push_blk, put_blk, Nat.add_assoc]
  have hE2 : Ext σ (σ1.put (σ.size + 2) [.int .i64 x1.p, .int .i64 x1.x, .int .i64 x1.y, .bool x1.n, .slice none 0 0]) := by
    repeat (first | assumption | exact Ext.refl _ | refine Ext.pushed ?_ _ | refine Ext.put ?_ (by simp; try omega) _)
  refine (toAtomS_ok (hv.ext RAt_gd hE2) hn).mono ?_
  rintro v2 σ2 ⟨hE, fp, hfp, hfr⟩
  have c1 := hE.blk (σ.size + 1) (by simp; omega)
  have c2 := hE.blk (σ.size + 2) (by simp; omega)
  have hb2 : σ2.base = σ.base := by rw [hE.base]; exact hb'
  simp [put_blk, b1, b2] at c1 c2
  obtain ⟨a2, n2, rfl⟩ := hfp.len
  simp [c1, c2, hb2, hb, hb1, readCells, setCells, put_blk, elV]
  have hfr3 : ∀ q ∈ fp, σ.size + 3 ≤ q := fun q hq => by
    have := hfr.2 q hq
    simp at this
    omega
  refine hK _ _ ⟨?_, _, fp, rfl, rfl, ⟨_, rfl, hfp.frame RAt_gd rfl (Nat.le_refl _) fun q hq => ?_⟩, hfr.1, fun q hq => by have := hfr3 q hq; omega⟩
  · have := hE2.trans hE
    repeat (first | assumption | exact Ext.refl _ | refine Ext.pushed ?_ _ | refine Ext.put ?_ (by simp; try omega) _)
  · have := hfr3 q hq
    repeat rw [put_off _ _ (show q ≠ _ by omega)]
theorem eqRule_ok (σ : Heap) (x y : Ru) (cs : List Value) (f : List Nat) (ds : List Value) (e : List Nat) (h : RRu σ x cs f) (k : RRu σ y ds e) (hn : x.b.length ≤ 1048576) : ACalls Try.prog w0 82 [elV true cs, elV true ds] σ fun v σ' => v = .bool (decide (x = y)) ∧ Ext σ σ' := by
  obtain ⟨v, rfl, hv⟩ := h
  obtain ⟨v', rfl, hv'⟩ := k
  refine go82 fun K hK => ?_
  obtain ⟨a, c, rfl⟩ := hv.len
  obtain ⟨a', c', rfl⟩ := hv'.len
  obtain ⟨x1, x2⟩ := x
  obtain ⟨y1, y2⟩ := y
  simp [H82, elV, readCells, push_blk, Nat.add_assoc]
  refine ret_ext (eqAtom_ok _ x1 y1) fun σ1 hE1 => ?_
  have b0 := hE1.blk σ.size (by simp [Nat.add_assoc])
  have b1 := hE1.blk (σ.size + 1) (by simp [Nat.add_assoc])
  have hE : Ext σ σ1 := by
    refine Ext.trans ?_ hE1
    repeat (first | assumption | exact Ext.refl _ | refine Ext.pushed ?_ _ | refine Ext.put ?_ (by simp; try omega) _)
  simp [push_blk] at b0 b1
  by_cases hc : x1 = y1
  case neg =>
    simp [hc]
    exact hK _ _ ⟨by simp [hc], hE⟩
  simp [hc, b0, b1]
  refine ret_ext (eqAtomS_ok (hv.ext RAt_gd hE) (hv'.ext RAt_gd hE) (by simp at hn; simp; omega)) fun σ2 hE2 => ?_
  by_cases hd : x2 = y2
  · simp [hd]
    exact hK _ _ ⟨by simp [hc, hd], hE.trans hE2⟩
  · simp [hd]
    exact hK _ _ ⟨by simp [hd], hE.trans hE2⟩
theorem szAtomS_ok {σ : Heap} {a : Option Addr} {n c : Nat} (hn : n ≤ 9223372036854775807) {left : Int} (h0 : 0 ≤ left) (h1 : left ≤ 1048576) : ACalls Try.prog w0 94 [.slice a n c, .int .i64 left] σ fun v σ' => v = .int .i64 (sub left n) ∧ σ' = σ := by
  refine go94 fun K hK => ?_
  have hw : IntKind.i64.wrap (left - n) = left - n := w64 (by omega) (by omega)
  by_cases h : left - n < 0
  · simp [H94, hw, h]
    exact hK _ _ ⟨by unfold sub; rw [if_neg (by omega)], rfl⟩
  · simp [H94, hw, h]
    exact hK _ _ ⟨by unfold sub; rw [if_pos (by omega)], rfl⟩
theorem szRule_ok (σ : Heap) (x : Ru) (cs : List Value) (f : List Nat) (h : RRu σ x cs f) (hn : x.b.length ≤ 9223372036854775807) {left : Int} (h0 : 0 ≤ left) (h1 : left ≤ 1048576) : ACalls Try.prog w0 80 [elV true cs, .int .i64 left] σ fun v σ' => v = .int .i64 (sub left x.b.length) ∧ Ext σ σ' := by
  obtain ⟨v, rfl, hv⟩ := h
  obtain ⟨a, c, rfl⟩ := hv.len
  refine go80 fun K hK => ?_
  simp [H80, elV, readCells, push_blk]
  refine ret_go (szAtomS_ok hn h0 h1) ?_
  by_cases hs : sub left x.b.length < 0
  · simp [hs]
    refine hK _ _ ⟨?_, Ext.push _ _⟩
    unfold sub at hs ⊢
    split at hs
    · omega
    · rw [if_neg (by assumption)]
  · simp [hs]
    exact hK _ _ ⟨rfl, Ext.push _ _⟩
abbrev Rus (σ : Heap) (v : Value) (xs : List Ru) (fp : List Nat) : Prop := SlF RRu 5 σ v xs fp
theorem toRuleS_ok {σ : Heap} {v : Value} {xs : List Ru} {fp : List Nat} (h : Rus σ v xs fp) (hn : xs.length ≤ 1048576) (hx : ∀ x ∈ xs, x.b.length ≤ 1048576) : ACalls Try.prog w0 50 [v] σ fun v' σ' => Ext σ σ' ∧ ∃ fp', Rus σ' v' xs fp' ∧ Fresh σ fp' :=
  toF_ok hmix Try.func50 comp50 (bytes := 56) (agg := true) (g := 81) (ok := fun x => x.b.length ≤ 1048576) rfl RRu_gd (by omega) rfl (.inl rfl) (by omega)
    (fun σ x cs f h _ hx => toRule_ok σ x cs f h hx) h (by omega) hx
theorem eqRuleS_ok {σ : Heap} {s t : Value} {L M : List Ru} {fp fq : List Nat} (h : Rus σ s L fp) (k : Rus σ t M fq) (hn : L.length ≤ 9223372036854775807) (hx : ∀ x ∈ L, x.b.length ≤ 1048576) : ACalls Try.prog w0 51 [s, t] σ fun v σ' => v = .bool (decide (L = M)) ∧ Ext σ σ' :=
  eqF_ok hmix Try.func51 comp51 (agg := true) (g := 82) (ok := fun x => x.b.length ≤ 1048576) rfl RRu_gd (by omega) (.inl rfl)
    (fun σ x y cs f ds e h k _ _ hx => eqRule_ok σ x y cs f ds e h k hx) h k hn hx
theorem szRuleS_ok {σ : Heap} {s : Value} {L : List Ru} {fp : List Nat} (h : Rus σ s L fp) (hn : L.length ≤ 9223372036854775807) (hx : ∀ x ∈ L, x.b.length ≤ 9223372036854775807) {left : Int} (h0 : 0 ≤ left) (h1 : left ≤ 1048576) : ACalls Try.prog w0 48 [s, .int .i64 left] σ fun v σ' => v = .int .i64 (sub left (tots (fun x : Ru => x.b.length) L)) ∧ Ext σ σ' :=
  szF_ok hmix Try.func48 comp48 (agg := true) (g := 80) (ok := fun x => x.b.length ≤ 9223372036854775807) rfl RRu_gd (by omega) (.inl rfl)
    (fun σ x cs f left h _ hx h0 h1 => szRule_ok σ x cs f h hx h0 h1) h hn hx h0 h1
theorem reads_b : Reads Try.prog 4 RBF fun _ => True := reads_bool Try.underlying4
theorem cb1 : Try.prog.cellsOf 4 = 1 := by kernel_rfl
theorem reads_atom : Reads Try.prog 113 RAt fun x => I64 x.p ∧ I64 x.x ∧ I64 x.y := by
  intro H enc W fuel cs x h
  have ⟨hl, n, hf⟩ := trod_fields Try.underlying113 h
  have hl' : cs.length = 4 := hl.trans (by kernel_rfl)
  obtain ⟨c0, c1, c2, c3, rfl⟩ := len_4 hl'
  obtain ⟨⟨x0, g0, ⟨e0, _⟩, p0⟩, v0⟩ := reads_field reads_i ci1 rfl (hf 0 _ rfl)
  obtain ⟨⟨x1, g1, ⟨e1, _⟩, p1⟩, v1⟩ := reads_field reads_i ci1 rfl (hf 1 _ rfl)
  obtain ⟨⟨x2, g2, ⟨e2, _⟩, p2⟩, v2⟩ := reads_field reads_i ci1 rfl (hf 2 _ rfl)
  obtain ⟨⟨x3, g3, ⟨e3, _⟩, p3⟩, v3⟩ := reads_field reads_b cb1 rfl (hf 3 _ rfl)
  simp at e0 e1 e2 e3 v0 v1 v2 v3
  subst e0 e1 e2 e3
  exact ⟨⟨⟨x0, x1, x2, x3⟩, [], ⟨rfl, rfl⟩, p0, p1, p2⟩, by simp [v0, v1, v2, v3]⟩
theorem ca4 : Try.prog.cellsOf 113 = 4 := by kernel_rfl
theorem reads_atoms : Reads Try.prog 114 (RSF RAt 4) (PSl fun x : At => I64 x.p ∧ I64 x.x ∧ I64 x.y) := reads_slice Try.underlying114 ca4 (by omega) reads_atom
theorem cas1 : Try.prog.cellsOf 114 = 1 := by kernel_rfl
theorem reads_rule : Reads Try.prog 116 RRu fun x => x.b.length ≤ 9223372036854775807 := by
  intro H enc W fuel cs x h
  have ⟨hl, n, hf⟩ := trod_fields Try.underlying116 h
  have hl' : cs.length = 5 := hl.trans (by kernel_rfl)
  obtain ⟨c0, c1, c2, c3, c4, rfl⟩ := len_5 hl'
  obtain ⟨⟨x0, g0, ⟨e0, _⟩, p0⟩, v0⟩ := reads_field reads_atom ca4 rfl (hf 0 _ rfl)
  obtain ⟨⟨x1, g1, ⟨w1, e1, hs⟩, p1⟩, v1⟩ := reads_field reads_atoms cas1 rfl (hf 1 _ rfl)
  simp at e0 e1 v0 v1
  obtain ⟨rfl, rfl, rfl, rfl⟩ := e0
  subst e1
  exact ⟨⟨⟨x0, x1⟩, g1, ⟨_, rfl, hs⟩, p1.1⟩, by simp [v0, v1]⟩
theorem reads_rules : Reads Try.prog 70 (RSF RRu 5) (PSl fun x : Ru => x.b.length ≤ 9223372036854775807) := reads_slice Try.underlying70 (by kernel_rfl) (by omega) reads_rule
end Go.Proofs.Ytennnifijepfhaa
