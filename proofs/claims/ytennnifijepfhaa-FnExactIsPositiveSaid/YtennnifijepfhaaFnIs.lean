/- IsLinear and IsPositive: what the reference and the program compute, and the exact laws. -/
import Derived.Test.YtennnifijepfhaaCoIs
import Derived.Test.YtennnifijepfhaaDtNd
namespace Go.Proofs.Ytennnifijepfhaa
open Go Go.AH
set_option linter.unusedSimpArgs false
set_option linter.unusedVariables false
variable {w0 : World}
theorem all_snoc {α : Type} {p : α → Bool} {L : List α} {i : Nat} (hi : i < L.length) (h : (L.take i).all p = true) (hp : p L[i] = true) : (L.take (i + 1)).all p = true := by
  rw [List.take_succ_eq_append_getElem hi, List.all_append, h]; simp [hp]
theorem all_no {α : Type} {p : α → Bool} {L : List α} {i : Nat} (hi : i < L.length) (hp : p L[i] = false) : L.all p = false := by
  rw [List.all_eq_false]; exact ⟨L[i], List.getElem_mem _, by simp [hp]⟩
/-- One cell out of an element's cells. -/
theorem cell_of {l : List Value} {o n j : Nat} {cs : List Value} {v : Value} (h : readCells l o n = some cs) (hj : cs[j]? = some v) : l[o + j]? = some v := by
  obtain ⟨h1, h2, h3⟩ := readCells_eq h
  have : j < cs.length := (List.getElem?_eq_some_iff.1 hj).1
  rw [← h3 j (by omega)]; exact hj
def okLin (x : Nd) : Bool := inR x.kind 1 5
def okPos (x : Nd) : Bool := inR x.kind 1 6 && !decide (x.kind = 5)
theorem sIsLinear_ok {σ : Heap} {s : Value} {L : List Nd} {fp : List Nat} (h : Nds σ s L fp) (hL : L.length ≤ 9223372036854775807) : ACalls Try.prog w0 27 [s] σ fun v σ' => v = .bool (L.all okLin) ∧ Ext σ σ' := by
  refine acalls_go hmix Try.func27 comp27 (Nat.le_of_ble_eq_true rfl) fun K hK => ?_
  obtain ⟨a, c, rfl⟩ := h.len
  simp [C27]
  refine AWp_count (fun k fr σ' => ∃ i : Nat, i + k = L.length ∧ fr 0 = .slice a L.length c ∧ fr 3 = .int .i64 i ∧ σ' = σ ∧ (L.take i).all okLin = true) L.length ⟨0, by simp⟩ ?_
  rintro J hJ k fr σ' ⟨i, hi, h0, h3, rfl, hall⟩
  by_cases hlt : i < L.length
  · obtain ⟨b, o, c', cs, f, e, hc, hb, _, hcs, ⟨v, rfl, hv⟩, hrd, _⟩ := h.at_ (by omega) hlt
    cases e
    have hcell := cell_of (j := 0) hrd rfl
    simp at hcell
    have hw := wrap_suc hlt hL
    simp [h0, h3, hlt, partA, hcell]
    refine (inRange_ok _ _ _ _).mono ?_
    rintro v σ2 ⟨rfl, rfl⟩
    cases hin : inR L[i].kind 1 5
    · simp
      exact hK _ _ ⟨by rw [all_no (p := okLin) hlt hin], Ext.refl _⟩
    · simp [h3, hw]
      exact .mk (k - 1) (by omega) (hJ _ _ _ ⟨i + 1, by omega, by simp [h0], by simp, rfl, all_snoc hlt hall hin⟩)
  · simp [h0, h3, hlt]
    rw [List.take_of_length_le (by omega)] at hall
    exact hK _ _ ⟨by rw [hall], Ext.refl _⟩
theorem iIsLinear_ok {σ : Heap} {s : Value} {L : List Nd} {fp : List Nat} (h : Nds σ s L fp) (hL : L.length ≤ 9223372036854775807) : ACalls Try.prog w0 29 [s] σ fun v σ' => v = .bool (L.all okLin) ∧ Ext σ σ' := by
  refine acalls_go hmix Try.func29 comp29 (Nat.le_of_ble_eq_true rfl) fun K hK => ?_
  obtain ⟨a, c, rfl⟩ := h.len
  simp [C29]
  refine AWp_count (fun k fr σ' => ∃ i : Nat, i + k = L.length ∧ fr 5 = .slice a L.length c ∧ fr 6 = .int .i64 L.length ∧ fr 7 = .int .i64 i ∧ Ext σ σ' ∧ (L.take i).all okLin = true) L.length ⟨0, by simp, by simp, by simp, by simp, Ext.refl _, by simp⟩ ?_
  rintro J hJ k fr σ' ⟨i, hi, h5, h6, h7, hE, hall⟩
  by_cases hlt : i < L.length
  · obtain ⟨b, o, c', cs, f, e, hc, hb, _, hcs, ⟨v, rfl, hv⟩, hrd, _⟩ := (h.ext RNd_gd hE).at_ (by omega) hlt
    cases e
    have hw := wrap_suc hlt hL
    have hbs := σ'.hle
    obtain ⟨a2, c2, rfl⟩ := hv.len
    have hE' : Ext σ (σ'.push ⟨10, ndCells L[i] (.slice a2 L[i].cols.length c2)⟩) := hE.pushed _
    by_cases hk : L[i].kind < 1
    · simp [h5, h6, h7, hlt, partA, hrd, ndCells, push_blk, hbs, setCells, hk]
      exact hK _ _ ⟨by rw [all_no (p := okLin) hlt]; simp [okLin, inR]; omega, hE'⟩
    by_cases hk2 : L[i].kind > 5
    · simp [h5, h6, h7, hlt, partA, hrd, ndCells, push_blk, hbs, setCells, hk, hk2]
      exact hK _ _ ⟨by rw [all_no (p := okLin) hlt]; simp [okLin, inR]; omega, hE'⟩
    simp [h5, h6, h7, hlt, partA, hrd, ndCells, push_blk, hbs, setCells, hk, hk2, hw]
    exact .mk (k - 1) (by omega) (hJ _ _ _ ⟨i + 1, by omega, by simp [h5], by simp [h6], by simp, hE', all_snoc hlt hall (by simp [okLin, inR]; omega)⟩)
  · simp [h5, h6, h7, hlt]
    rw [List.take_of_length_le (by omega)] at hall
    exact hK _ _ ⟨by rw [hall], hE⟩
theorem sIsPositive_ok {σ : Heap} {s : Value} {L : List Nd} {fp : List Nat} (h : Nds σ s L fp) (hL : L.length ≤ 9223372036854775807) : ACalls Try.prog w0 31 [s] σ fun v σ' => v = .bool (L.all okPos) ∧ Ext σ σ' := by
  refine acalls_go hmix Try.func31 comp31 (Nat.le_of_ble_eq_true rfl) fun K hK => ?_
  obtain ⟨a, c, rfl⟩ := h.len
  simp [C31]
  refine AWp_count (fun k fr σ' => ∃ i : Nat, i + k = L.length ∧ fr 0 = .slice a L.length c ∧ fr 3 = .int .i64 i ∧ σ' = σ ∧ (L.take i).all okPos = true) L.length ⟨0, by simp⟩ ?_
  rintro J hJ k fr σ' ⟨i, hi, h0, h3, rfl, hall⟩
  by_cases hlt : i < L.length
  · obtain ⟨b, o, c', cs, f, e, hc, hb, _, hcs, ⟨v, rfl, hv⟩, hrd, _⟩ := h.at_ (by omega) hlt
    cases e
    have hcell := cell_of (j := 0) hrd rfl
    simp at hcell
    have hw := wrap_suc hlt hL
    simp [h0, h3, hlt, partA, hcell]
    refine (inRange_ok _ _ _ _).mono ?_
    rintro v σ2 ⟨rfl, rfl⟩
    cases hin : inR L[i].kind 1 6
    · simp
      exact hK _ _ ⟨by rw [all_no (p := okPos) hlt (by simp [okPos, hin])], Ext.refl _⟩
    · by_cases h5 : L[i].kind = 5
      · simp [h0, h3, hlt, partA, hcell, h5]
        exact hK _ _ ⟨by rw [all_no (p := okPos) hlt (by simp [okPos, h5])], Ext.refl _⟩
      · simp [h0, h3, hlt, partA, hcell, h5, hw]
        exact .mk (k - 1) (by omega) (hJ _ _ _ ⟨i + 1, by omega, by simp [h0], by simp, rfl, all_snoc hlt hall (by simp [okPos, hin, h5])⟩)
  · simp [h0, h3, hlt]
    rw [List.take_of_length_le (by omega)] at hall
    exact hK _ _ ⟨by rw [hall], Ext.refl _⟩
theorem iIsPositive_ok {σ : Heap} {s : Value} {L : List Nd} {fp : List Nat} (h : Nds σ s L fp) (hL : L.length ≤ 9223372036854775807) : ACalls Try.prog w0 32 [s] σ fun v σ' => v = .bool (L.all okPos) ∧ Ext σ σ' := by
  refine acalls_go hmix Try.func32 comp32 (Nat.le_of_ble_eq_true rfl) fun K hK => ?_
  obtain ⟨a, c, rfl⟩ := h.len
  simp [C32]
  refine AWp_count (fun k fr σ' => ∃ i : Nat, i + k = L.length ∧ fr 5 = .slice a L.length c ∧ fr 6 = .int .i64 L.length ∧ fr 7 = .int .i64 i ∧ Ext σ σ' ∧ (L.take i).all okPos = true) L.length ⟨0, by simp, by simp, by simp, by simp, Ext.refl _, by simp⟩ ?_
  rintro J hJ k fr σ' ⟨i, hi, h5, h6, h7, hE, hall⟩
  by_cases hlt : i < L.length
  · obtain ⟨b, o, c', cs, f, e, hc, hb, _, hcs, ⟨v, rfl, hv⟩, hrd, _⟩ := (h.ext RNd_gd hE).at_ (by omega) hlt
    cases e
    have hw := wrap_suc hlt hL
    have hbs := σ'.hle
    obtain ⟨a2, c2, rfl⟩ := hv.len
    have hE' : Ext σ (σ'.push ⟨10, ndCells L[i] (.slice a2 L[i].cols.length c2)⟩) := hE.pushed _
    have hcase : L[i].kind = 1 ∨ L[i].kind = 2 ∨ L[i].kind = 3 ∨ L[i].kind = 4 ∨ L[i].kind = 6 ∨ (L[i].kind ≠ 1 ∧ L[i].kind ≠ 2 ∧ L[i].kind ≠ 3 ∧ L[i].kind ≠ 4 ∧ L[i].kind ≠ 6) := by omega
    rcases hcase with hk | hk | hk | hk | hk | ⟨k1, k2, k3, k4, k6⟩
    · simp [h5, h6, h7, hlt, partA, hrd, ndCells, push_blk, hbs, setCells, hk, hw]
      exact .mk (k - 1) (by omega) (hJ _ _ _ ⟨i + 1, by omega, by simp [h5], by simp [h6], by simp, by simpa [ndCells, hk] using hE', all_snoc hlt hall (by simp [okPos, inR, hk])⟩)
    · simp [h5, h6, h7, hlt, partA, hrd, ndCells, push_blk, hbs, setCells, hk, hw]
      exact .mk (k - 1) (by omega) (hJ _ _ _ ⟨i + 1, by omega, by simp [h5], by simp [h6], by simp, by simpa [ndCells, hk] using hE', all_snoc hlt hall (by simp [okPos, inR, hk])⟩)
    · simp [h5, h6, h7, hlt, partA, hrd, ndCells, push_blk, hbs, setCells, hk, hw]
      exact .mk (k - 1) (by omega) (hJ _ _ _ ⟨i + 1, by omega, by simp [h5], by simp [h6], by simp, by simpa [ndCells, hk] using hE', all_snoc hlt hall (by simp [okPos, inR, hk])⟩)
    · simp [h5, h6, h7, hlt, partA, hrd, ndCells, push_blk, hbs, setCells, hk, hw]
      exact .mk (k - 1) (by omega) (hJ _ _ _ ⟨i + 1, by omega, by simp [h5], by simp [h6], by simp, by simpa [ndCells, hk] using hE', all_snoc hlt hall (by simp [okPos, inR, hk])⟩)
    · simp [h5, h6, h7, hlt, partA, hrd, ndCells, push_blk, hbs, setCells, hk, hw]
      exact .mk (k - 1) (by omega) (hJ _ _ _ ⟨i + 1, by omega, by simp [h5], by simp [h6], by simp, by simpa [ndCells, hk] using hE', all_snoc hlt hall (by simp [okPos, inR, hk])⟩)
    · simp [h5, h6, h7, hlt, partA, hrd, ndCells, push_blk, hbs, setCells, k1, k2, k3, k4, k6]
      refine hK _ _ ⟨?_, hE'⟩
      rw [all_no (p := okPos) hlt]
      simp [okPos, inR]
      omega
  · simp [h5, h6, h7, hlt]
    rw [List.take_of_length_le (by omega)] at hall
    exact hK _ _ ⟨by rw [hall], hE⟩
theorem sub_pos {left : Int} {n : Nat} (h0 : 0 ≤ left) : (¬ sub left n < 0) ↔ (n : Int) ≤ left := by
  unfold sub; split <;> omega
theorem tots_mem {α : Type} {tot : α → Nat} {xs : List α} {x : α} (h : x ∈ xs) : tot x ≤ tots tot xs := by
  obtain ⟨i, hi, rfl⟩ := List.mem_iff_getElem.1 h
  have := tots_take (tot := tot) hi
  have := tots_le tot xs (i + 1)
  unfold tots
  omega
theorem lawLin {σ : Heap} {s : Value} {L : List Nd} {fp : List Nat} (h : Nds σ s L fp) (hL : L.length ≤ 9223372036854775807) (hx : ∀ x ∈ L, x.cols.length ≤ 9223372036854775807) : ACalls Try.prog w0 7 [s] σ fun v σ' => v = .bool true := by
  refine acalls_go hmix Try.func7 comp7 (Nat.le_of_ble_eq_true rfl) fun K hK => ?_
  obtain ⟨a, c, rfl⟩ := h.len
  simp [C7]
  refine (szNodeS_ok h hL hx (by omega) (by omega)).mono ?_
  rintro v σ1 ⟨rfl, hE1⟩
  by_cases hs : sub 1048576 (tots (fun x : Nd => x.cols.length) L) < 0
  · simp [hs]
    exact hK _ _ rfl
  have hsz := (sub_pos (by omega)).1 hs
  have hl : L.length ≤ 1048576 := by unfold tots at hsz; omega
  have hxl : ∀ x ∈ L, x.cols.length ≤ 1048576 := fun x hx => by
    have := tots_mem (tot := fun x : Nd => x.cols.length) hx
    omega
  simp [hs]
  have h1 := h.ext RNd_gd hE1
  refine (toNodeS_ok h1 hl hxl).mono ?_
  rintro v2 σ2 ⟨hE2, f2, h2, _⟩
  simp
  refine (sIsLinear_ok h2 hL).mono ?_
  rintro v3 σ3 ⟨rfl, hE3⟩
  simp
  refine (toNodeS_ok (h1.ext RNd_gd (hE2.trans hE3)) hl hxl).mono ?_
  rintro v4 σ4 ⟨hE4, f4, h4, _⟩
  simp
  refine (iIsLinear_ok h4 hL).mono ?_
  rintro v5 σ5 ⟨rfl, hE5⟩
  simp
  refine (toNodeS_ok (h1.ext RNd_gd (((hE2.trans hE3).trans hE4).trans hE5)) hl hxl).mono ?_
  rintro v6 σ6 ⟨hE6, f6, h6, _⟩
  simp
  refine (eqNodeS_ok (h4.ext RNd_gd (hE5.trans hE6)) h6 hL hxl).mono ?_
  rintro v7 σ7 ⟨rfl, hE7⟩
  simp
  exact hK _ _ rfl
theorem lawPos {σ : Heap} {s : Value} {L : List Nd} {fp : List Nat} (h : Nds σ s L fp) (hL : L.length ≤ 9223372036854775807) (hx : ∀ x ∈ L, x.cols.length ≤ 9223372036854775807) : ACalls Try.prog w0 8 [s] σ fun v σ' => v = .bool true := by
  refine acalls_go hmix Try.func8 comp8 (Nat.le_of_ble_eq_true rfl) fun K hK => ?_
  obtain ⟨a, c, rfl⟩ := h.len
  simp [C8]
  refine (szNodeS_ok h hL hx (by omega) (by omega)).mono ?_
  rintro v σ1 ⟨rfl, hE1⟩
  by_cases hs : sub 1048576 (tots (fun x : Nd => x.cols.length) L) < 0
  · simp [hs]
    exact hK _ _ rfl
  have hsz := (sub_pos (by omega)).1 hs
  have hl : L.length ≤ 1048576 := by unfold tots at hsz; omega
  have hxl : ∀ x ∈ L, x.cols.length ≤ 1048576 := fun x hx => by
    have := tots_mem (tot := fun x : Nd => x.cols.length) hx
    omega
  simp [hs]
  have h1 := h.ext RNd_gd hE1
  refine (toNodeS_ok h1 hl hxl).mono ?_
  rintro v2 σ2 ⟨hE2, f2, h2, _⟩
  simp
  refine (sIsPositive_ok h2 hL).mono ?_
  rintro v3 σ3 ⟨rfl, hE3⟩
  simp
  refine (toNodeS_ok (h1.ext RNd_gd (hE2.trans hE3)) hl hxl).mono ?_
  rintro v4 σ4 ⟨hE4, f4, h4, _⟩
  simp
  refine (iIsPositive_ok h4 hL).mono ?_
  rintro v5 σ5 ⟨rfl, hE5⟩
  simp
  refine (toNodeS_ok (h1.ext RNd_gd (((hE2.trans hE3).trans hE4).trans hE5)) hl hxl).mono ?_
  rintro v6 σ6 ⟨hE6, f6, h6, _⟩
  simp
  refine (eqNodeS_ok (h4.ext RNd_gd (hE5.trans hE6)) h6 hL hxl).mono ?_
  rintro v7 σ7 ⟨rfl, hE7⟩
  simp
  exact hK _ _ rfl
end Go.Proofs.Ytennnifijepfhaa
