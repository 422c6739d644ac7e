/- Sets, facts and edges: what the tests of the reference and of the program compute. -/
import Derived.Test.YtennnifijepfhaaCoFe
import Derived.Test.YtennnifijepfhaaFnZs
namespace Go.Proofs.Ytennnifijepfhaa
open Go Go.AH
set_option linter.unusedSimpArgs false
set_option linter.unusedVariables false
set_option maxRecDepth 100000
variable {w0 : World}
def one1 (x : En) : Bool := decide (x.w = 1)
theorem isSet_ok {σ : Heap} {s : Value} {L : List En} {fp : List Nat} (h : Ens σ s L fp) (hL : L.length ≤ 9223372036854775807) : ACalls Try.prog w0 92 [s] σ fun v σ' => v = .bool (L.all one1) ∧ σ' = σ := by
  refine go92 fun K hK => ?_
  obtain ⟨a, c, rfl⟩ := h.len
  refine loop_for0 L.length (fun i σ' => σ' = σ ∧ (L.take i).all one1 = true) ⟨rfl, by simp⟩ ?_ ?_
  · rintro J i σ' hlt ⟨rfl, hall⟩ hJ
    obtain ⟨b, o, v, f, rfl, _, hc, hb, hv, hrd, hc0, hc1⟩ := Ens.at_ h hlt
    have hw := wrap_suc hlt hL
    by_cases hx : L[i].w = 1
    · simp [H92_l0, hlt, hc1, hw, hx]
      exact hJ _ ⟨rfl, all_snoc hlt hall (by simp [one1, hx])⟩
    · simp [H92_l0, hlt, hc1, hw, hx]
      exact hK _ _ ⟨by rw [all_no hlt (by simp [one1, hx])], rfl⟩
  · rintro J σ' ⟨rfl, hall⟩
    simp [H92_l0]
    exact hK _ _ ⟨by rw [all_end (Nat.le_refl _) hall], rfl⟩
def okSet (L : List En) : Bool := L.all one1 && okZ L
theorem IsSet_ok {σ : Heap} {s : Value} {L : List En} {fp : List Nat} (h : Ens σ s L fp) (hL : L.length ≤ 9223372036854775807) (hr : ∀ x ∈ L, x.row.length ≤ 4611686018427387904) : ACalls Try.prog w0 76 [s] σ fun v σ' => v = .bool (okSet L) ∧ Ext σ σ' := by
  refine go76 fun K hK => ?_
  obtain ⟨a, c, rfl⟩ := h.len
  simp [H76]
  refine loop_for0 L.length (fun i σ' => Ext σ σ' ∧ (L.take i).all one1 = true) ⟨Ext.refl _, by simp⟩ ?_ ?_
  · rintro J i σ' hlt ⟨hE, hall⟩ hJ
    obtain ⟨b, o, v, f, rfl, _, hc, hb, hv, hrd, hc0, hc1⟩ := Ens.at_ (h.ext REn_gd hE) hlt
    obtain ⟨a1, c1, rfl⟩ := hv.len
    have hw := wrap_suc hlt hL
    have hbs := σ'.hle
    obtain ⟨σ2, e2, hEp, hl2, _, _, ho⟩ := boxed σ' ⟨2, [.slice a1 L[i].row.length c1, .int .i64 L[i].w]⟩
    simp [H76_l0, hlt, hrd, hbs, setCells, ← e2, hl2, hw]
    by_cases hx : L[i].w = 1
    · simp [hx]
      exact hJ _ ⟨hE.trans hEp, all_snoc hlt hall (by simp [one1, hx])⟩
    · simp [hx]
      exact hK _ _ ⟨by rw [okSet, all_no hlt (by simp [one1, hx]), Bool.false_and], hE.trans hEp⟩
  · rintro J σ' ⟨hE, hall⟩
    simp [H76_l0]
    refine ret_ext (ValidZSet_ok (h.ext REn_gd hE) hL hr) fun σ2 hE2 => ?_
    simp
    exact hK _ _ ⟨by rw [okSet, all_end (Nat.le_refl _) hall, Bool.true_and], hE.trans hE2⟩
/-- The numbers of a row, by their places. -/
def gi (l : List Int) (i : Nat) : Int := l.getD i 0
theorem getD_at {l : List Int} {i : Nat} (h : i < l.length) : gi l i = l[i] := by simp [gi, List.getD_eq_getElem?_getD, h]
theorem Ints.cell {σ : Heap} {a : Option Addr} {n c : Nat} {l : List Int} (h : Ints σ (.slice a n c) l) (h0 : 0 < l.length) : n = l.length ∧ ∃ b o, a = some ⟨b, o, none⟩ ∧ 0 < c ∧ b < σ.size ∧ ∀ i, i < l.length → (σ.blk b).cells[o + i]? = some (.int .i64 (gi l i)) := by
  obtain ⟨b, o, c', e, hc, hb, _⟩ := Ints.at_ h h0
  injection e with e1 e2 e3
  subst e1 e2 e3
  refine ⟨rfl, b, o, rfl, hc, hb, fun i hi => ?_⟩
  obtain ⟨b', o', c2, e, _, _, hx⟩ := Ints.at_ h hi
  cases e
  rw [hx, getD_at hi]
def okF (x : En) : Bool := decide (x.row.length = 3) && inR (gi x.row 0) 0 3 && inR (gi x.row 1) 0 5 && inR (gi x.row 2) 0 5
theorem validFacts_ok {σ : Heap} {s : Value} {L : List En} {fp : List Nat} (h : Ens σ s L fp) (hL : L.length ≤ 9223372036854775807) (hr : ∀ x ∈ L, x.row.length ≤ 4611686018427387904) : ACalls Try.prog w0 74 [s] σ fun v σ' => v = .bool (L.all okF && okSet L) ∧ σ' = σ := by
  refine go74 fun K hK => ?_
  obtain ⟨a, c, rfl⟩ := h.len
  simp [H74]
  refine ret_go (validZSet_ok h hL hr) ?_
  cases hz : okZ L
  · simp
    exact hK _ _ ⟨by simp [okSet, hz], rfl⟩
  simp
  refine ret_go (isSet_ok h hL) ?_
  cases hset : L.all one1
  · simp
    exact hK _ _ ⟨by simp [okSet, hset], rfl⟩
  have hok : okSet L = true := by rw [okSet, hset, hz]; rfl
  simp
  refine loop_for0 L.length (fun i σ' => σ' = σ ∧ (L.take i).all okF = true) ⟨rfl, by simp⟩ ?_ ?_
  · rintro J i σ' hlt ⟨rfl, hall⟩ hJ
    obtain ⟨b, o, v, f, rfl, _, hc, hb, hv, hrd, hc0, hc1⟩ := Ens.at_ h hlt
    have hw := wrap_suc hlt hL
    obtain ⟨a1, c1, rfl⟩ := hv.len
    have hno : okF L[i] = false → K (.bool false) σ' := fun hx => hK _ _ ⟨by rw [all_no hlt hx]; rfl, rfl⟩
    by_cases h3 : L[i].row.length = 3
    case neg =>
      simp [H74_l0, hlt, hc0, show ¬ ((L[i].row.length : Int) = 3) by omega]
      exact hno (by simp [okF, h3])
    obtain ⟨_, b1, o1, rfl, _, hb1, hx⟩ := Ints.cell hv.ints (by omega)
    have h0 := hx 0 (by omega)
    have h1 := hx 1 (by omega)
    have h2 := hx 2 (by omega)
    simp at h0
    simp [H74_l0, hlt, hc0, h3, h0]
    refine ret_go (inRange_ok _ _ _ _) ?_
    cases r0 : inR (gi L[i].row 0) 0 3
    · simp
      exact hno (by simp only [okF, r0]; simp)
    simp [h1, h3]
    refine ret_go (inRange_ok _ _ _ _) ?_
    cases r1 : inR (gi L[i].row 1) 0 5
    · simp
      exact hno (by simp only [okF, r1]; simp)
    simp [h2, h3]
    refine ret_go (inRange_ok _ _ _ _) ?_
    cases r2 : inR (gi L[i].row 2) 0 5
    · simp
      exact hno (by simp only [okF, r2]; simp)
    simp [hw]
    exact hJ _ ⟨rfl, all_snoc hlt hall (by simp only [okF, r0, r1, r2, h3]; rfl)⟩
  · rintro J σ' ⟨rfl, hall⟩
    simp [H74_l0]
    exact hK _ _ ⟨by rw [all_end (Nat.le_refl _) hall, hok]; rfl, rfl⟩
theorem ValidFacts_ok {σ : Heap} {s : Value} {L : List En} {fp : List Nat} (h : Ens σ s L fp) (hL : L.length ≤ 9223372036854775807) (hr : ∀ x ∈ L, x.row.length ≤ 4611686018427387904) : ACalls Try.prog w0 44 [s] σ fun v σ' => v = .bool (L.all okF && okSet L) ∧ Ext σ σ' := by
  refine go44 fun K hK => ?_
  obtain ⟨a, c, rfl⟩ := h.len
  simp [H44]
  refine loop_for0 L.length (fun i σ' => Ext σ σ' ∧ (L.take i).all okF = true) ⟨Ext.refl _, by simp⟩ ?_ ?_
  · rintro J i σ' hlt ⟨hE, hall⟩ hJ
    obtain ⟨b, o, v, f, rfl, _, hc, hb, hv, hrd, hc0, hc1⟩ := Ens.at_ (h.ext REn_gd hE) hlt
    obtain ⟨a1, c1, rfl⟩ := hv.len
    have hw := wrap_suc hlt hL
    have hbs := σ'.hle
    obtain ⟨σ2, e2, hEp, hl2, _, _, ho⟩ := boxed σ' ⟨2, [.slice a1 L[i].row.length c1, .int .i64 L[i].w]⟩
    have hno : okF L[i] = false → K (.bool false) σ2 := fun hx => hK _ _ ⟨by rw [all_no hlt hx]; rfl, hE.trans hEp⟩
    simp [-Int.not_lt, -Int.not_le, H44_l0, hlt, hrd, hbs, setCells, ← e2, hl2, hw]
    by_cases h3 : L[i].row.length = 3
    case neg =>
      simp [show ¬ ((L[i].row.length : Int) = 3) by omega]
      exact hno (by simp [okF, h3])
    obtain ⟨_, b1, o1, rfl, _, hb1, hx⟩ := Ints.cell (hv.ext RIF_gd hEp).ints (by omega)
    have h0 := hx 0 (by omega)
    have h1 := hx 1 (by omega)
    have h2 := hx 2 (by omega)
    simp only [Nat.add_zero] at h0
    simp only [h3] at hl2
    simp [-Int.not_lt, -Int.not_le, h0, h1, h2, h3, hl2]
    generalize e0 : (gi L[i].row 0) = n0
    generalize e1 : (gi L[i].row 1) = n1
    generalize e2 : (gi L[i].row 2) = n2
    have hf : okF L[i] = (inR n0 0 3 && inR n1 0 5 && inR n2 0 5) := by simp only [okF, e0, e1, e2, h3]; rfl
    by_cases g0 : n0 < 0
    · simp [-Int.not_lt, -Int.not_le, g0]; exact hno (by simp [hf, inR]; omega)
    by_cases g1 : 3 < n0
    · simp [-Int.not_lt, -Int.not_le, g0, g1]; exact hno (by simp [hf, inR]; omega)
    by_cases g2 : n1 < 0
    · simp [-Int.not_lt, -Int.not_le, g0, g1, g2]; exact hno (by simp [hf, inR]; omega)
    by_cases g3 : 5 < n1
    · simp [-Int.not_lt, -Int.not_le, g0, g1, g2, g3]; exact hno (by simp [hf, inR]; omega)
    by_cases g4 : n2 < 0
    · simp [-Int.not_lt, -Int.not_le, g0, g1, g2, g3, g4]; exact hno (by simp [hf, inR]; omega)
    by_cases g5 : 5 < n2
    · simp [-Int.not_lt, -Int.not_le, g0, g1, g2, g3, g4, g5]; exact hno (by simp [hf, inR]; omega)
    simp [-Int.not_lt, -Int.not_le, g0, g1, g2, g3, g4, g5]
    exact hJ _ ⟨hE.trans hEp, all_snoc hlt hall (by simp [hf, inR]; omega)⟩
  · rintro J σ' ⟨hE, hall⟩
    simp [H44_l0]
    refine ret_ext (IsSet_ok (h.ext REn_gd hE) hL hr) fun σ2 hE2 => ?_
    simp
    exact hK _ _ ⟨by rw [all_end (Nat.le_refl _) hall, Bool.true_and], hE.trans hE2⟩
def okE (x : En) : Bool := decide (x.row.length = 2) && inR (gi x.row 0) 0 19 && inR (gi x.row 1) 0 19
theorem validEdges_ok {σ : Heap} {s : Value} {L : List En} {fp : List Nat} (h : Ens σ s L fp) (hL : L.length ≤ 9223372036854775807) (hr : ∀ x ∈ L, x.row.length ≤ 4611686018427387904) : ACalls Try.prog w0 78 [s] σ fun v σ' => v = .bool (L.all okE && okSet L) ∧ σ' = σ := by
  refine go78 fun K hK => ?_
  obtain ⟨a, c, rfl⟩ := h.len
  simp [H78]
  refine ret_go (validZSet_ok h hL hr) ?_
  cases hz : okZ L
  · simp
    exact hK _ _ ⟨by simp [okSet, hz], rfl⟩
  simp
  refine ret_go (isSet_ok h hL) ?_
  cases hset : L.all one1
  · simp
    exact hK _ _ ⟨by simp [okSet, hset], rfl⟩
  have hok : okSet L = true := by rw [okSet, hset, hz]; rfl
  simp
  refine loop_for0 L.length (fun i σ' => σ' = σ ∧ (L.take i).all okE = true) ⟨rfl, by simp⟩ ?_ ?_
  · rintro J i σ' hlt ⟨rfl, hall⟩ hJ
    obtain ⟨b, o, v, f, rfl, _, hc, hb, hv, hrd, hc0, hc1⟩ := Ens.at_ h hlt
    have hw := wrap_suc hlt hL
    obtain ⟨a1, c1, rfl⟩ := hv.len
    have hno : okE L[i] = false → K (.bool false) σ' := fun hx => hK _ _ ⟨by rw [all_no hlt hx]; rfl, rfl⟩
    by_cases h3 : L[i].row.length = 2
    case neg =>
      simp [H78_l0, hlt, hc0, show ¬ ((L[i].row.length : Int) = 2) by omega]
      exact hno (by simp [okE, h3])
    obtain ⟨_, b1, o1, rfl, _, hb1, hx⟩ := Ints.cell hv.ints (by omega)
    have h0 := hx 0 (by omega)
    have h1 := hx 1 (by omega)
    simp at h0
    simp [H78_l0, hlt, hc0, h3, h0]
    refine ret_go (inRange_ok _ _ _ _) ?_
    cases r0 : inR (gi L[i].row 0) 0 19
    · simp
      exact hno (by simp only [okE, r0]; simp)
    simp [h1, h3]
    refine ret_go (inRange_ok _ _ _ _) ?_
    cases r1 : inR (gi L[i].row 1) 0 19
    · simp
      exact hno (by simp only [okE, r1]; simp)
    simp [hw]
    exact hJ _ ⟨rfl, all_snoc hlt hall (by simp only [okE, r0, r1, h3]; rfl)⟩
  · rintro J σ' ⟨rfl, hall⟩
    simp [H78_l0]
    exact hK _ _ ⟨by rw [all_end (Nat.le_refl _) hall, hok]; rfl, rfl⟩
theorem isVertex_ok (n : Int) (σ : Heap) : ACalls Try.prog w0 79 [.int .i64 n] σ fun v σ' => v = .bool (inR n 0 19) ∧ σ' = σ := by
  refine go79 fun K hK => ?_
  by_cases h : 0 ≤ n
  · simp [H79, h]
    exact hK _ _ ⟨by simp [inR, h], rfl⟩
  · simp [H79, h]
    exact hK _ _ ⟨by simp [inR, h], rfl⟩
theorem ValidEdges_ok {σ : Heap} {s : Value} {L : List En} {fp : List Nat} (h : Ens σ s L fp) (hL : L.length ≤ 9223372036854775807) (hr : ∀ x ∈ L, x.row.length ≤ 4611686018427387904) : ACalls Try.prog w0 47 [s] σ fun v σ' => v = .bool (L.all okE && okSet L) ∧ Ext σ σ' := by
  refine go47 fun K hK => ?_
  obtain ⟨a, c, rfl⟩ := h.len
  simp [H47]
  refine loop_for0 L.length (fun i σ' => Ext σ σ' ∧ (L.take i).all okE = true) ⟨Ext.refl _, by simp⟩ ?_ ?_
  · rintro J i σ' hlt ⟨hE, hall⟩ hJ
    obtain ⟨b, o, v, f, rfl, _, hc, hb, hv, hrd, hc0, hc1⟩ := Ens.at_ (h.ext REn_gd hE) hlt
    obtain ⟨a1, c1, rfl⟩ := hv.len
    have hw := wrap_suc hlt hL
    have hbs := σ'.hle
    obtain ⟨σ2, e2, hEp, hl2, _, _, ho⟩ := boxed σ' ⟨2, [.slice a1 L[i].row.length c1, .int .i64 L[i].w]⟩
    have hno : okE L[i] = false → K (.bool false) σ2 := fun hx => hK _ _ ⟨by rw [all_no hlt hx]; rfl, hE.trans hEp⟩
    simp [-Int.not_lt, -Int.not_le, H47_l0, hlt, hrd, hbs, setCells, ← e2, hl2, hw]
    by_cases h3 : L[i].row.length = 2
    case neg =>
      simp [show ¬ ((L[i].row.length : Int) = 2) by omega]
      exact hno (by simp [okE, h3])
    obtain ⟨_, b1, o1, rfl, _, hb1, hx⟩ := Ints.cell (hv.ext RIF_gd hEp).ints (by omega)
    have h0 := hx 0 (by omega)
    have h1 := hx 1 (by omega)
    simp only [Nat.add_zero] at h0
    simp only [h3] at hl2
    simp [h0, h1, h3, hl2]
    refine ret_go (isVertex_ok _ _) ?_
    cases r0 : inR (gi L[i].row 0) 0 19
    · simp
      exact hno (by simp only [okE, r0]; simp)
    simp [h1, h3, hl2]
    refine ret_go (isVertex_ok _ _) ?_
    cases r1 : inR (gi L[i].row 1) 0 19
    · simp
      exact hno (by simp only [okE, r1]; simp)
    simp [hw]
    exact hJ _ ⟨hE.trans hEp, all_snoc hlt hall (by simp only [okE, r0, r1, h3]; rfl)⟩
  · rintro J σ' ⟨hE, hall⟩
    simp [H47_l0]
    refine ret_ext (IsSet_ok (h.ext REn_gd hE) hL hr) fun σ2 hE2 => ?_
    simp
    exact hK _ _ ⟨by rw [all_end (Nat.le_refl _) hall, Bool.true_and], hE.trans hE2⟩
theorem sub_pos {left : Int} {n : Nat} (h0 : 0 ≤ left) : (¬ sub left n < 0) ↔ (n : Int) ≤ left := by
  unfold sub; split <;> omega
theorem tots_mem {α : Type} {tot : α → Nat} {xs : List α} {x : α} (h : x ∈ xs) : tot x ≤ tots tot xs := by
  obtain ⟨i, hi, rfl⟩ := List.mem_iff_getElem.1 h
  have := tots_take (tot := tot) hi
  have := tots_le tot xs (i + 1)
  unfold tots
  omega
theorem sValidFacts_ok {σ : Heap} {s : Value} {L : List En} {fp : List Nat} (h : Ens σ s L fp) (hL : L.length ≤ 9223372036854775807) (hr : ∀ x ∈ L, x.row.length ≤ 4611686018427387904) : ACalls Try.prog w0 42 [s] σ fun v σ' => v = .bool (L.all okF && okSet L) ∧ σ' = σ := by
  refine go42 fun K hK => ?_
  simp [H42]
  refine ret_go (validFacts_ok h hL hr) ?_
  simp
  exact hK _ _ ⟨rfl, rfl⟩
theorem lawFacts_ok {σ : Heap} {s : Value} {L : List En} {fp : List Nat} (h : Ens σ s L fp) (hL : L.length ≤ 9223372036854775807) (hx : ∀ x ∈ L, x.row.length ≤ 9223372036854775807) : ACalls Try.prog w0 12 [s] σ fun v σ' => v = .bool true := by
  refine go12 fun K hK => ?_
  simp [H12]
  refine ret_ext (szEntryS_ok h hL hx (by omega) (by omega)) fun σ1 hE1 => ?_
  by_cases hs : sub 1048576 (tots (fun x : En => x.row.length) L) < 0
  · simp [hs]
    exact hK _ _ rfl
  have hsz := (sub_pos (by omega)).1 hs
  have hl : L.length ≤ 1048576 := by unfold tots at hsz; omega
  have hxl : ∀ x ∈ L, x.row.length ≤ 1048576 := fun x hx => by
    have := tots_mem (tot := fun x : En => x.row.length) hx
    omega
  have hxr : ∀ x ∈ L, x.row.length ≤ 4611686018427387904 := fun x hx => by have := hxl x hx; omega
  simp [hs]
  have h1 := h.ext REn_gd hE1
  refine (toEntryS_ok h1 hl hxl).mono ?_
  rintro v2 σ2 ⟨hE2, f2, h2, _⟩
  simp
  refine ret_go (sValidFacts_ok h2 hL hxr) ?_
  simp
  refine (toEntryS_ok (h1.ext REn_gd hE2) hl hxl).mono ?_
  rintro v4 σ4 ⟨hE4, f4, h4, _⟩
  simp
  refine ret_ext (ValidFacts_ok h4 hL hxr) fun σ5 hE5 => ?_
  simp
  refine (toEntryS_ok (h1.ext REn_gd ((hE2.trans hE4).trans hE5)) hl hxl).mono ?_
  rintro v6 σ6 ⟨hE6, f6, h6, _⟩
  simp
  refine ret_ext (eqEntryS_ok (h4.ext REn_gd (hE5.trans hE6)) h6 hL hxl) fun σ7 hE7 => ?_
  simp
  exact hK _ _ rfl
theorem sValidEdges_ok {σ : Heap} {s : Value} {L : List En} {fp : List Nat} (h : Ens σ s L fp) (hL : L.length ≤ 9223372036854775807) (hr : ∀ x ∈ L, x.row.length ≤ 4611686018427387904) : ACalls Try.prog w0 46 [s] σ fun v σ' => v = .bool (L.all okE && okSet L) ∧ σ' = σ := by
  refine go46 fun K hK => ?_
  simp [H46]
  refine ret_go (validEdges_ok h hL hr) ?_
  simp
  exact hK _ _ ⟨rfl, rfl⟩
theorem lawEdges_ok {σ : Heap} {s : Value} {L : List En} {fp : List Nat} (h : Ens σ s L fp) (hL : L.length ≤ 9223372036854775807) (hx : ∀ x ∈ L, x.row.length ≤ 9223372036854775807) : ACalls Try.prog w0 13 [s] σ fun v σ' => v = .bool true := by
  refine go13 fun K hK => ?_
  simp [H13]
  refine ret_ext (szEntryS_ok h hL hx (by omega) (by omega)) fun σ1 hE1 => ?_
  by_cases hs : sub 1048576 (tots (fun x : En => x.row.length) L) < 0
  · simp [hs]
    exact hK _ _ rfl
  have hsz := (sub_pos (by omega)).1 hs
  have hl : L.length ≤ 1048576 := by unfold tots at hsz; omega
  have hxl : ∀ x ∈ L, x.row.length ≤ 1048576 := fun x hx => by
    have := tots_mem (tot := fun x : En => x.row.length) hx
    omega
  have hxr : ∀ x ∈ L, x.row.length ≤ 4611686018427387904 := fun x hx => by have := hxl x hx; omega
  simp [hs]
  have h1 := h.ext REn_gd hE1
  refine (toEntryS_ok h1 hl hxl).mono ?_
  rintro v2 σ2 ⟨hE2, f2, h2, _⟩
  simp
  refine ret_go (sValidEdges_ok h2 hL hxr) ?_
  simp
  refine (toEntryS_ok (h1.ext REn_gd hE2) hl hxl).mono ?_
  rintro v4 σ4 ⟨hE4, f4, h4, _⟩
  simp
  refine ret_ext (ValidEdges_ok h4 hL hxr) fun σ5 hE5 => ?_
  simp
  refine (toEntryS_ok (h1.ext REn_gd ((hE2.trans hE4).trans hE5)) hl hxl).mono ?_
  rintro v6 σ6 ⟨hE6, f6, h6, _⟩
  simp
  refine ret_ext (eqEntryS_ok (h4.ext REn_gd (hE5.trans hE6)) h6 hL hxl) fun σ7 hE7 => ?_
  simp
  exact hK _ _ rfl
end Go.Proofs.Ytennnifijepfhaa
