/- Plans' nodes: how they lie in memory, and their copies and comparisons. -/
import Derived.Test.YtennnifijepfhaaCoNd
import Derived.Test.YtennnifijepfhaaAhP
import Derived.Test.YtennnifijepfhaaDtI
import Derived.Test.YtennnifijepfhaaExF
namespace Go.Proofs.Ytennnifijepfhaa
open Go Go.AH
set_option linter.unusedSimpArgs false
set_option linter.unusedVariables false
variable {w0 : World}
structure Pd where
  col : Int
  kind : Int
  val : Int
deriving DecidableEq
def RPd (_ : Heap) (x : Pd) (cs : List Value) (f : List Nat) : Prop := cs = [.int .i64 x.col, .int .i64 x.kind, .int .i64 x.val] ∧ f = []
theorem toPredicate_ok (σ : Heap) (x : Pd) (cs : List Value) (f : List Nat) (h : RPd σ x cs f) : ACalls Try.prog w0 86 [elV true cs] σ fun v σ' => Ext σ σ' ∧ v = elV true cs := by
  obtain ⟨rfl, rfl⟩ := h
  refine acalls_go hmix Try.func86 comp86 (Nat.le_of_ble_eq_true rfl) fun K hK => ?_
  have hb := σ.hle
  have hb1 (k : Nat) : σ.base ≤ σ.size + k := by omega
  simp [C86, elV, partA, readCells, setCells, push_blk, put_blk, hb, hb1, Nat.add_assoc]
  refine hK _ _ ⟨?_, rfl⟩
  repeat (first | exact Ext.refl _ | refine Ext.pushed ?_ _ | refine Ext.put ?_ (by simp; try omega) _)
theorem eqPredicate_ok (σ : Heap) (x y : Pd) (cs : List Value) (f : List Nat) (ds : List Value) (e : List Nat) (h : RPd σ x cs f) (k : RPd σ y ds e) : ACalls Try.prog w0 87 [elV true cs, elV true ds] σ fun v σ' => v = .bool (decide (x = y)) ∧ Ext σ σ' := by
  obtain ⟨rfl, rfl⟩ := h
  obtain ⟨rfl, rfl⟩ := k
  refine acalls_go hmix Try.func87 comp87 (Nat.le_of_ble_eq_true rfl) fun K hK => ?_
  obtain ⟨x1, x2, x3⟩ := x
  obtain ⟨y1, y2, y3⟩ := y
  have hE : Ext σ ((σ.push ⟨3, [.int .i64 x1, .int .i64 x2, .int .i64 x3]⟩).push ⟨3, [.int .i64 y1, .int .i64 y2, .int .i64 y3]⟩) := ((Ext.refl _).pushed _).pushed _
  by_cases h1 : x1 = y1
  · by_cases h2 : x2 = y2
    · by_cases h3 : x3 = y3
      · simp [C87, elV, partA, push_blk, Nat.add_assoc, h1, h2, h3]
        exact hK _ _ ⟨by simp [h1, h2, h3], by simpa [h1, h2, h3] using hE⟩
      · simp [C87, elV, partA, push_blk, Nat.add_assoc, h1, h2, h3]
        exact hK _ _ ⟨by simp [h1, h2, h3], by simpa [h1, h2, h3] using hE⟩
    · simp [C87, elV, partA, push_blk, Nat.add_assoc, h1, h2]
      exact hK _ _ ⟨by simp [h1, h2], by simpa [h1, h2] using hE⟩
  · simp [C87, elV, partA, push_blk, Nat.add_assoc, h1]
    exact hK _ _ ⟨by simp [h1], by simpa [h1] using hE⟩
structure Nd where
  kind : Int
  a : Int
  b : Int
  key : Int
  cols : List Int
  pred : Pd
  agg : Int
  col : Int
deriving DecidableEq
def ndCells (x : Nd) (v : Value) : List Value := [.int .i64 x.kind, .int .i64 x.a, .int .i64 x.b, .int .i64 x.key, v, .int .i64 x.pred.col, .int .i64 x.pred.kind, .int .i64 x.pred.val, .int .i64 x.agg, .int .i64 x.col]
def RNd (σ : Heap) (x : Nd) (cs : List Value) (f : List Nat) : Prop := ∃ v, cs = ndCells x v ∧ IntsF σ v x.cols f
theorem RNd_gd : Gd RNd := ⟨fun ⟨v, e, h⟩ h1 h2 h3 => ⟨v, e, h.frame RIF_gd h1 h2 h3⟩, fun ⟨v, e, h⟩ => h.ins RIF_gd, fun ⟨v, e, h⟩ => by
  obtain ⟨a, c, rfl⟩ := h.len
  rw [e]; rfl⟩
theorem toNode_ok (σ : Heap) (x : Nd) (cs : List Value) (f : List Nat) (h : RNd σ x cs f) (hn : x.cols.length ≤ 1048576) : ACalls Try.prog w0 66 [elV true cs] σ fun v σ' => Ext σ σ' ∧ ∃ cs' f', v = elV true cs' ∧ cs'.length = 10 ∧ RNd σ' x cs' f' ∧ Fresh σ f' := by
  obtain ⟨v, rfl, hv⟩ := h
  refine acalls_go hmix Try.func66 comp66 (Nat.le_of_ble_eq_true rfl) fun K hK => ?_
  have hb := σ.hle
  have hb1 (k : Nat) : σ.base ≤ σ.size + k := by omega
  obtain ⟨a, c, rfl⟩ := hv.len
  obtain ⟨x1, x2, x3, x4, x5, ⟨p1, p2, p3⟩, x6, x7⟩ := x
  simp [C66, elV, ndCells, partA, readCells, setCells, push_blk, put_blk, hb, hb1, Nat.add_assoc]
  refine (toIntS_f ?_ hn).mono ?_
  · refine (hv.ext RIF_gd ?_).ints
    repeat (first | exact Ext.refl _ | refine Ext.pushed ?_ _ | refine Ext.put ?_ (by simp; try omega) _)
  rintro v2 σ2 ⟨hE, hi, hv2⟩
  have hEσ : Ext σ σ2 := by
    refine Ext.trans ?_ hE
    repeat (first | exact Ext.refl _ | refine Ext.pushed ?_ _ | refine Ext.put ?_ (by simp; try omega) _)
  have hs2 : σ.size + 3 ≤ σ2.size := by simpa [Nat.add_assoc] using hE.size
  have hv0 : vcells v2 = [v2] := by rw [hv2]; rfl
  have hv1 : one v2 = true := by rw [hv2]; rfl
  have b0 := hE.blk σ.size (by simp [Nat.add_assoc])
  have b1 := hE.blk (σ.size + 1) (by simp [Nat.add_assoc])
  have b2 := hE.blk (σ.size + 2) (by simp [Nat.add_assoc])
  have hb' : σ2.base = σ.base := hEσ.base
  simp [push_blk, put_blk, Nat.add_assoc] at b0 b1 b2
  subst hv2
  simp [b0, b1, b2, hb', hb, hb1, partA, readCells, setCells, push_blk, put_blk, Nat.add_assoc]
  refine (toPredicate_ok _ ⟨p1, p2, p3⟩ _ [] ⟨rfl, rfl⟩).mono ?_
  rintro v3 σ3 ⟨hE3, rfl⟩
  have hEσ3 : Ext σ σ3 := (Ext.put hEσ (by omega) _).trans hE3
  have c0 := hE3.blk σ.size (by simp; omega)
  have c1 := hE3.blk (σ.size + 1) (by simp; omega)
  have c2 := hE3.blk (σ.size + 2) (by simp; omega)
  have c3 := hE3.blk (σ.size + 3)
  have hb3 : σ3.base = σ.base := hEσ3.base
  simp [b0, b1, b2, push_blk, put_blk, Nat.add_assoc] at c0 c1 c2
  simp [c0, c1, c2, hb3, hb, hb1, partA, readCells, setCells, push_blk, put_blk, elV, Nat.add_assoc]
  obtain ⟨fp, hfp, hfr⟩ := fresh_ints hi rfl
  have hfr3 : ∀ q ∈ fp, σ.size + 3 ≤ q := fun q hq => by
    have := hfr.2 q hq
    simpa [Nat.add_assoc] using this
  have hfp3 : IntsF σ3 _ x5 fp := hfp.frame RIF_gd (by rw [hb3, hb']) (by simpa using hE3.size) fun q hq => by
    rw [hE3.blk q (by simpa using hfp.ins RIF_gd q hq), put_off _ _ (by have := hfr3 q hq; omega)]
  refine hK _ _ ⟨?_, _, fp, rfl, rfl, ⟨_, rfl, hfp3.frame RIF_gd rfl (Nat.le_refl _) fun q hq => ?_⟩, hfr.old (by simp [Nat.add_assoc])⟩
  · repeat (first | exact hEσ3 | refine Ext.put ?_ (by omega) _)
  · have := hfr3 q hq
    repeat rw [put_off _ _ (show q ≠ _ by omega)]
theorem eqNode_ok (σ : Heap) (x y : Nd) (cs : List Value) (f : List Nat) (ds : List Value) (e : List Nat) (h : RNd σ x cs f) (k : RNd σ y ds e) (hn : x.cols.length ≤ 1048576) : ACalls Try.prog w0 67 [elV true cs, elV true ds] σ fun v σ' => v = .bool (decide (x = y)) ∧ Ext σ σ' := by
  obtain ⟨v, rfl, hv⟩ := h
  obtain ⟨v', rfl, hv'⟩ := k
  refine acalls_go hmix Try.func67 comp67 (Nat.le_of_ble_eq_true rfl) fun K hK => ?_
  obtain ⟨a, c, rfl⟩ := hv.len
  obtain ⟨a', c', rfl⟩ := hv'.len
  have hE : Ext σ ((σ.push ⟨10, ndCells x (.slice a x.cols.length c)⟩).push ⟨10, ndCells y (.slice a' y.cols.length c')⟩) := ((Ext.refl _).pushed _).pushed _
  obtain ⟨x1, x2, x3, x4, xc, xp, x5, x6⟩ := x
  obtain ⟨y1, y2, y3, y4, yc, yp, y5, y6⟩ := y
  by_cases h1 : x1 = y1
  case neg =>
    simp [C67, elV, ndCells, partA, readCells, push_blk, Nat.add_assoc, h1]
    exact hK _ _ ⟨by simp [h1], hE⟩
  subst h1
  by_cases h2 : x2 = y2
  case neg =>
    simp [C67, elV, ndCells, partA, readCells, push_blk, Nat.add_assoc, h2]
    exact hK _ _ ⟨by simp [h2], hE⟩
  subst h2
  by_cases h3 : x3 = y3
  case neg =>
    simp [C67, elV, ndCells, partA, readCells, push_blk, Nat.add_assoc, h3]
    exact hK _ _ ⟨by simp [h3], hE⟩
  subst h3
  by_cases h4 : x4 = y4
  case neg =>
    simp [C67, elV, ndCells, partA, readCells, push_blk, Nat.add_assoc, h4]
    exact hK _ _ ⟨by simp [h4], hE⟩
  subst h4
  simp [C67, elV, ndCells, partA, readCells, push_blk, Nat.add_assoc]
  refine (eqIntS_ok (hv.ext RIF_gd hE).ints (hv'.ext RIF_gd hE).ints (by have : xc.length ≤ 1048576 := hn; show xc.length ≤ _; omega)).mono ?_
  rintro v2 σ2 ⟨rfl, rfl⟩
  by_cases hc : xc = yc
  case neg =>
    simp [hc]
    exact hK _ _ ⟨by simp [hc], hE⟩
  subst hc
  simp [ndCells, partA, readCells, push_blk, Nat.add_assoc]
  refine (eqPredicate_ok _ xp yp _ [] _ [] ⟨rfl, rfl⟩ ⟨rfl, rfl⟩).mono ?_
  rintro v3 σ3 ⟨rfl, hE3⟩
  have c0 := hE3.blk σ.size (by simp [Nat.add_assoc])
  have c1 := hE3.blk (σ.size + 1) (by simp [Nat.add_assoc])
  simp [ndCells, push_blk, Nat.add_assoc] at c0 c1
  by_cases hp : xp = yp
  case neg =>
    simp [hp]
    exact hK _ _ ⟨by simp [hp], hE.trans hE3⟩
  subst hp
  by_cases h5 : x5 = y5
  case neg =>
    simp [h5, c0, c1, partA]
    exact hK _ _ ⟨by simp [h5], hE.trans hE3⟩
  subst h5
  by_cases h6 : x6 = y6
  case neg =>
    simp [h6, c0, c1, partA]
    exact hK _ _ ⟨by simp [h6], hE.trans hE3⟩
  subst h6
  simp [c0, c1, partA]
  exact hK _ _ ⟨by simp, hE.trans hE3⟩
theorem szNode_ok (σ : Heap) (x : Nd) (cs : List Value) (f : List Nat) (h : RNd σ x cs f) (hn : x.cols.length ≤ 9223372036854775807) {left : Int} (h0 : 0 ≤ left) (h1 : left ≤ 1048576) : ACalls Try.prog w0 65 [elV true cs, .int .i64 left] σ fun v σ' => v = .int .i64 (sub left x.cols.length) ∧ Ext σ σ' := by
  obtain ⟨v, rfl, hv⟩ := h
  refine acalls_go hmix Try.func65 comp65 (Nat.le_of_ble_eq_true rfl) fun K hK => ?_
  obtain ⟨a, c, rfl⟩ := hv.len
  simp [C65, elV, ndCells, partA, readCells, push_blk, Nat.add_assoc]
  refine (szF0_ok hmix Try.func85 comp85 rfl hn h0 h1).mono ?_
  rintro v2 σ2 ⟨rfl, rfl⟩
  by_cases hs : sub left x.cols.length < 0
  · simp [hs]
    refine hK _ _ ⟨?_, Ext.push _ _⟩
    unfold sub at hs ⊢
    split at hs
    · omega
    · rw [if_neg (by assumption)]
  · simp [hs]
    exact hK _ _ ⟨rfl, Ext.push _ _⟩
abbrev Nds (σ : Heap) (v : Value) (xs : List Nd) (fp : List Nat) : Prop := SlF RNd 10 σ v xs fp
theorem toNodeS_ok {σ : Heap} {v : Value} {xs : List Nd} {fp : List Nat} (h : Nds σ v xs fp) (hn : xs.length ≤ 1048576) (hx : ∀ x ∈ xs, x.cols.length ≤ 1048576) : ACalls Try.prog w0 28 [v] σ fun v' σ' => Ext σ σ' ∧ ∃ fp', Nds σ' v' xs fp' ∧ Fresh σ fp' :=
  toF_ok hmix Try.func28 comp28 (bytes := 96) (agg := true) (g := 66) (ok := fun x => x.cols.length ≤ 1048576) rfl RNd_gd (by omega) rfl (.inl rfl) (by omega)
    (fun σ x cs f h _ hx => toNode_ok σ x cs f h hx) h (by omega) hx
theorem eqNodeS_ok {σ : Heap} {s t : Value} {L M : List Nd} {fp fq : List Nat} (h : Nds σ s L fp) (k : Nds σ t M fq) (hn : L.length ≤ 9223372036854775807) (hx : ∀ x ∈ L, x.cols.length ≤ 1048576) : ACalls Try.prog w0 30 [s, t] σ fun v σ' => v = .bool (decide (L = M)) ∧ Ext σ σ' :=
  eqF_ok hmix Try.func30 comp30 (agg := true) (g := 67) (ok := fun x => x.cols.length ≤ 1048576) rfl RNd_gd (by omega) (.inl rfl)
    (fun σ x y cs f ds e h k _ _ hx => eqNode_ok σ x y cs f ds e h k hx) h k hn hx
theorem szNodeS_ok {σ : Heap} {s : Value} {L : List Nd} {fp : List Nat} (h : Nds σ s L fp) (hn : L.length ≤ 9223372036854775807) (hx : ∀ x ∈ L, x.cols.length ≤ 9223372036854775807) {left : Int} (h0 : 0 ≤ left) (h1 : left ≤ 1048576) : ACalls Try.prog w0 26 [s, .int .i64 left] σ fun v σ' => v = .int .i64 (sub left (tots (fun x : Nd => x.cols.length) L)) ∧ Ext σ σ' :=
  szF_ok hmix Try.func26 comp26 (agg := true) (g := 65) (ok := fun x => x.cols.length ≤ 9223372036854775807) rfl RNd_gd (by omega) (.inl rfl)
    (fun σ x cs f left h _ hx h0 h1 => szNode_ok σ x cs f h hx h0 h1) h hn hx h0 h1
theorem reads_pred : Reads Try.prog 91 RPd fun _ => True := by
  intro H enc W fuel cs x h
  have ⟨hl, n, hf⟩ := trod_fields Try.underlying91 h
  have hl' : cs.length = 3 := hl.trans (by kernel_rfl)
  obtain ⟨c0, c1, c2, rfl⟩ := len_3 hl'
  obtain ⟨⟨x0, g0, ⟨e0, _⟩, _⟩, v0⟩ := reads_field reads_i ci1 rfl (hf 0 _ rfl)
  obtain ⟨⟨x1, g1, ⟨e1, _⟩, _⟩, v1⟩ := reads_field reads_i ci1 rfl (hf 1 _ rfl)
  obtain ⟨⟨x2, g2, ⟨e2, _⟩, _⟩, v2⟩ := reads_field reads_i ci1 rfl (hf 2 _ rfl)
  simp at e0 e1 e2 v0 v1 v2
  subst e0 e1 e2
  exact ⟨⟨⟨x0, x1, x2⟩, [], ⟨rfl, rfl⟩, trivial⟩, by simp [v0, v1, v2]⟩
theorem reads_node : Reads Try.prog 93 RNd fun x => x.cols.length ≤ 9223372036854775807 := by
  intro H enc W fuel cs x h
  have ⟨hl, n, hf⟩ := trod_fields Try.underlying93 h
  have hl' : cs.length = 10 := hl.trans (by kernel_rfl)
  have cp : Try.prog.cellsOf 91 = 3 := by kernel_rfl
  obtain ⟨c0, c1, c2, c3, c4, c5, c6, c7, c8, c9, rfl⟩ := len_10 hl'
  obtain ⟨⟨x0, g0, ⟨e0, _⟩, _⟩, v0⟩ := reads_field reads_i ci1 rfl (hf 0 _ rfl)
  obtain ⟨⟨x1, g1, ⟨e1, _⟩, _⟩, v1⟩ := reads_field reads_i ci1 rfl (hf 1 _ rfl)
  obtain ⟨⟨x2, g2, ⟨e2, _⟩, _⟩, v2⟩ := reads_field reads_i ci1 rfl (hf 2 _ rfl)
  obtain ⟨⟨x3, g3, ⟨e3, _⟩, _⟩, v3⟩ := reads_field reads_i ci1 rfl (hf 3 _ rfl)
  obtain ⟨⟨x4, g4, ⟨w4, e4, hs⟩, hp4⟩, v4⟩ := reads_field reads_ints cis1 rfl (hf 4 _ rfl)
  obtain ⟨⟨x5, g5, ⟨e5, _⟩, _⟩, v5⟩ := reads_field reads_pred cp rfl (hf 5 _ rfl)
  obtain ⟨⟨x6, g6, ⟨e6, _⟩, _⟩, v6⟩ := reads_field reads_i ci1 rfl (hf 6 _ rfl)
  obtain ⟨⟨x7, g7, ⟨e7, _⟩, _⟩, v7⟩ := reads_field reads_i ci1 rfl (hf 7 _ rfl)
  simp at e0 e1 e2 e3 e4 e5 e6 e7 v0 v1 v2 v3 v4 v5 v6 v7
  obtain ⟨a5, b5, d5⟩ := e5
  subst e0 e1 e2 e3 e4 a5 b5 d5 e6 e7
  exact ⟨⟨⟨x0, x1, x2, x3, x4, x5, x6, x7⟩, g4, ⟨_, rfl, hs⟩, hp4.1⟩, by simp [v0, v1, v2, v3, v4, v5, v6, v7]⟩
theorem reads_nodes : Reads Try.prog 41 (RSF RNd 10) (PSl fun x : Nd => x.cols.length ≤ 9223372036854775807) := reads_slice Try.underlying41 (by kernel_rfl) (by omega) reads_node
end Go.Proofs.Ytennnifijepfhaa
