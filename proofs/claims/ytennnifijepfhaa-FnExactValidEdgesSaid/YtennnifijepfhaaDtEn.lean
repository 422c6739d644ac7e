/- Entries (rows with weights): how they lie in memory, and their copies and comparisons. -/
import Derived.Test.YtennnifijepfhaaCoEn
import Derived.Test.YtennnifijepfhaaAhP
import Derived.Test.YtennnifijepfhaaDtI
import Derived.Test.YtennnifijepfhaaExF
namespace Go.Proofs.Ytennnifijepfhaa
open Go Go.AH
set_option linter.unusedSimpArgs false
set_option linter.unusedVariables false
variable {w0 : World}
structure En where
  row : List Int
  w : Int
deriving DecidableEq
def REn (σ : Heap) (x : En) (cs : List Value) (f : List Nat) : Prop := ∃ v, cs = [v, .int .i64 x.w] ∧ IntsF σ v x.row f
theorem REn_gd : Gd REn := ⟨fun ⟨v, e, h⟩ h1 h2 h3 => ⟨v, e, h.frame RIF_gd h1 h2 h3⟩, fun ⟨v, e, h⟩ => h.ins RIF_gd, fun ⟨v, e, h⟩ => by
  obtain ⟨a, c, rfl⟩ := h.len
  rw [e]; rfl⟩
theorem toEntry_ok (σ : Heap) (x : En) (cs : List Value) (f : List Nat) (h : REn σ x cs f) (hn : x.row.length ≤ 1048576) : ACalls Try.prog w0 75 [elV true cs] σ fun v σ' => Ext σ σ' ∧ ∃ cs' f', v = elV true cs' ∧ cs'.length = 2 ∧ REn σ' x cs' f' ∧ Fresh σ f' := by
  obtain ⟨v, rfl, hv⟩ := h
  refine acalls_go hmix Try.func75 comp75 (Nat.le_of_ble_eq_true rfl) fun K hK => ?_
  have hb := σ.hle
  have hb1 (k : Nat) : σ.base ≤ σ.size + k := by omega
  obtain ⟨a, c, rfl⟩ := hv.len
  obtain ⟨x1, x2⟩ := x
  simp [C75, elV, partA, readCells, setCells, push_blk, put_blk, hb, hb1, Nat.add_assoc]
  refine (toIntS_f ?_ hn).mono ?_
  · refine (hv.ext RIF_gd ?_).ints
    repeat (first | exact Ext.refl _ | refine Ext.pushed ?_ _ | refine Ext.put ?_ (by simp; try omega) _)
  rintro v2 σ2 ⟨hE, hi, hv2⟩
  have hEσ : Ext σ σ2 := by
    refine Ext.trans ?_ hE
    repeat (first | exact Ext.refl _ | refine Ext.pushed ?_ _ | refine Ext.put ?_ (by simp; try omega) _)
  have b0 := hE.blk σ.size (by simp [Nat.add_assoc])
  have b1 := hE.blk (σ.size + 1) (by simp [Nat.add_assoc])
  have b2 := hE.blk (σ.size + 2) (by simp [Nat.add_assoc])
  have hb' : σ2.base = σ.base := hEσ.base
  simp [push_blk, put_blk, Nat.add_assoc] at b0 b1 b2
  obtain ⟨fp, hfp, hfr⟩ := fresh_ints hi hv2
  subst hv2
  simp [b0, b1, b2, hb', hb, hb1, partA, readCells, setCells, push_blk, put_blk, elV, Nat.add_assoc]
  have hfr3 : ∀ q ∈ fp, σ.size + 3 ≤ q := fun q hq => by
    have := hfr.2 q hq
    simpa [Nat.add_assoc] using this
  refine hK _ _ ⟨?_, _, fp, rfl, rfl, ⟨_, rfl, hfp.frame RIF_gd rfl (Nat.le_refl _) fun q hq => ?_⟩, hfr.old (by simp [Nat.add_assoc])⟩
  · repeat (first | exact hEσ | refine Ext.put ?_ (by omega) _)
  · have := hfr3 q hq
    repeat rw [put_off _ _ (show q ≠ _ by omega)]
theorem eqEntry_ok (σ : Heap) (x y : En) (cs : List Value) (f : List Nat) (ds : List Value) (e : List Nat) (h : REn σ x cs f) (k : REn σ y ds e) (hn : x.row.length ≤ 1048576) : ACalls Try.prog w0 77 [elV true cs, elV true ds] σ fun v σ' => v = .bool (decide (x = y)) ∧ Ext σ σ' := by
  obtain ⟨v, rfl, hv⟩ := h
  obtain ⟨v', rfl, hv'⟩ := k
  refine acalls_go hmix Try.func77 comp77 (Nat.le_of_ble_eq_true rfl) fun K hK => ?_
  obtain ⟨a, c, rfl⟩ := hv.len
  obtain ⟨a', c', rfl⟩ := hv'.len
  have hE : Ext σ ((σ.push ⟨2, [.slice a x.row.length c, .int .i64 x.w]⟩).push ⟨2, [.slice a' y.row.length c', .int .i64 y.w]⟩) := ((Ext.refl _).pushed _).pushed _
  obtain ⟨xc, x1⟩ := x
  obtain ⟨yc, y1⟩ := y
  simp [C77, elV, partA, readCells, push_blk, Nat.add_assoc]
  refine (eqIntS_ok (hv.ext RIF_gd hE).ints (hv'.ext RIF_gd hE).ints (by have : xc.length ≤ 1048576 := hn; show xc.length ≤ _; omega)).mono ?_
  rintro v2 σ2 ⟨rfl, rfl⟩
  by_cases hc : xc = yc
  case neg =>
    simp [hc]
    exact hK _ _ ⟨by simp [hc], hE⟩
  subst hc
  by_cases h1 : x1 = y1
  case neg =>
    simp [h1, partA, readCells, push_blk, Nat.add_assoc]
    exact hK _ _ ⟨by simp [h1], hE⟩
  subst h1
  simp [partA, readCells, push_blk, Nat.add_assoc]
  exact hK _ _ ⟨by simp, hE⟩
theorem szEntry_ok (σ : Heap) (x : En) (cs : List Value) (f : List Nat) (h : REn σ x cs f) (hn : x.row.length ≤ 9223372036854775807) {left : Int} (h0 : 0 ≤ left) (h1 : left ≤ 1048576) : ACalls Try.prog w0 73 [elV true cs, .int .i64 left] σ fun v σ' => v = .int .i64 (sub left x.row.length) ∧ Ext σ σ' := by
  obtain ⟨v, rfl, hv⟩ := h
  refine acalls_go hmix Try.func73 comp73 (Nat.le_of_ble_eq_true rfl) fun K hK => ?_
  obtain ⟨a, c, rfl⟩ := hv.len
  simp [C73, elV, partA, readCells, push_blk, Nat.add_assoc]
  refine (szF0_ok hmix Try.func85 comp85 rfl hn h0 h1).mono ?_
  rintro v2 σ2 ⟨rfl, rfl⟩
  by_cases hs : sub left x.row.length < 0
  · simp [hs]
    refine hK _ _ ⟨?_, Ext.push _ _⟩
    unfold sub at hs ⊢
    split at hs
    · omega
    · rw [if_neg (by assumption)]
  · simp [hs]
    exact hK _ _ ⟨rfl, Ext.push _ _⟩
abbrev Ens (σ : Heap) (v : Value) (xs : List En) (fp : List Nat) : Prop := SlF REn 2 σ v xs fp
theorem toEntryS_ok {σ : Heap} {v : Value} {xs : List En} {fp : List Nat} (h : Ens σ v xs fp) (hn : xs.length ≤ 1048576) (hx : ∀ x ∈ xs, x.row.length ≤ 1048576) : ACalls Try.prog w0 43 [v] σ fun v' σ' => Ext σ σ' ∧ ∃ fp', Ens σ' v' xs fp' ∧ Fresh σ fp' :=
  toF_ok hmix Try.func43 comp43 (bytes := 32) (agg := true) (g := 75) (ok := fun x => x.row.length ≤ 1048576) rfl REn_gd (by omega) rfl (.inl rfl) (by omega)
    (fun σ x cs f h _ hx => toEntry_ok σ x cs f h hx) h (by omega) hx
theorem eqEntryS_ok {σ : Heap} {s t : Value} {L M : List En} {fp fq : List Nat} (h : Ens σ s L fp) (k : Ens σ t M fq) (hn : L.length ≤ 9223372036854775807) (hx : ∀ x ∈ L, x.row.length ≤ 1048576) : ACalls Try.prog w0 45 [s, t] σ fun v σ' => v = .bool (decide (L = M)) ∧ Ext σ σ' :=
  eqF_ok hmix Try.func45 comp45 (agg := true) (g := 77) (ok := fun x => x.row.length ≤ 1048576) rfl REn_gd (by omega) (.inl rfl)
    (fun σ x y cs f ds e h k _ _ hx => eqEntry_ok σ x y cs f ds e h k hx) h k hn hx
theorem szEntryS_ok {σ : Heap} {s : Value} {L : List En} {fp : List Nat} (h : Ens σ s L fp) (hn : L.length ≤ 9223372036854775807) (hx : ∀ x ∈ L, x.row.length ≤ 9223372036854775807) {left : Int} (h0 : 0 ≤ left) (h1 : left ≤ 1048576) : ACalls Try.prog w0 41 [s, .int .i64 left] σ fun v σ' => v = .int .i64 (sub left (tots (fun x : En => x.row.length) L)) ∧ Ext σ σ' :=
  szF_ok hmix Try.func41 comp41 (agg := true) (g := 73) (ok := fun x => x.row.length ≤ 9223372036854775807) rfl REn_gd (by omega) (.inl rfl)
    (fun σ x cs f left h _ hx h0 h1 => szEntry_ok σ x cs f h hx h0 h1) h hn hx h0 h1
theorem reads_entry : Reads Try.prog 108 REn fun x => x.row.length ≤ 9223372036854775807 ∧ I64 x.w ∧ ∀ y ∈ x.row, I64 y := by
  intro H enc W fuel cs x h
  have ⟨hl, n, hf⟩ := trod_fields Try.underlying108 h
  have hl' : cs.length = 2 := hl.trans (by kernel_rfl)
  obtain ⟨c0, c1, rfl⟩ := len_2 hl'
  obtain ⟨⟨x0, g0, ⟨w0, e0, hs⟩, p0⟩, v0⟩ := reads_field reads_ints cis1 rfl (hf 0 _ rfl)
  obtain ⟨⟨x1, g1, ⟨e1, _⟩, p1⟩, v1⟩ := reads_field reads_i ci1 rfl (hf 1 _ rfl)
  simp at e0 e1 v0 v1
  subst e0 e1
  exact ⟨⟨⟨x0, x1⟩, g0, ⟨_, rfl, hs⟩, p0.1, p1, p0.2⟩, by simp [v0, v1]⟩
theorem reads_entries : Reads Try.prog 63 (RSF REn 2) (PSl fun x : En => x.row.length ≤ 9223372036854775807 ∧ I64 x.w ∧ ∀ y ∈ x.row, I64 y) := reads_slice Try.underlying63 (by kernel_rfl) (by omega) reads_entry
end Go.Proofs.Ytennnifijepfhaa
