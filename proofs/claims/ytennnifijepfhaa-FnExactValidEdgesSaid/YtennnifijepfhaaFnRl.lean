/- Rows' order: what the reference and the program compute. -/
import Derived.Test.YtennnifijepfhaaCoZs
import Derived.Test.YtennnifijepfhaaDtEn
namespace Go.Proofs.Ytennnifijepfhaa
open Go Go.AH
set_option linter.unusedSimpArgs false
set_option linter.unusedVariables false
set_option maxRecDepth 20000
variable {w0 : World}
def rLess : List Int → List Int → Bool
  | _, [] => false
  | [], _ :: _ => true
  | a :: xs, b :: ys => if a = b then rLess xs ys else decide (a < b)
theorem rLess_drop {L M : List Int} {i : Nat} (h : i < L.length) (k : i < M.length) : rLess (L.drop i) (M.drop i) = if L[i] = M[i] then rLess (L.drop (i + 1)) (M.drop (i + 1)) else decide (L[i] < M[i]) := by
  rw [List.drop_eq_getElem_cons h, List.drop_eq_getElem_cons k]; rfl
theorem rLess_end {L M : List Int} {i : Nat} (h : ¬ (i < L.length ∧ i < M.length)) (hi : i ≤ L.length) (hm : i ≤ M.length) : rLess (L.drop i) (M.drop i) = decide (L.length < M.length) := by
  by_cases h1 : i < M.length
  · have : i = L.length := by omega
    subst this
    rw [List.drop_eq_getElem_cons h1, List.drop_length]
    simp [rLess, h1]
  · rw [List.drop_of_length_le (l := M) (by omega)]
    have : ¬ L.length < M.length := by omega
    simp [rLess, this]
theorem rowLess_ok {σ : Heap} {s t : Value} {L M : List Int} (h : Ints σ s L) (g : Ints σ t M) (hL : L.length ≤ 9223372036854775807) (hM : M.length ≤ 9223372036854775807) : ACalls Try.prog w0 103 [s, t] σ fun v σ' => v = .bool (rLess L M) ∧ σ' = σ := by
  refine acalls_go hmix Try.func103 comp103 (Nat.le_of_ble_eq_true rfl) fun K hK => ?_
  obtain ⟨a, c, rfl⟩ := h.len
  obtain ⟨a', c', rfl⟩ := g.len
  simp [C103]
  refine AWp_count (fun r fr σ' => ∃ i : Nat, i + r = L.length ∧ i ≤ M.length ∧ fr 0 = .slice a L.length c ∧ fr 1 = .slice a' M.length c' ∧ fr 5 = .int .i64 i ∧ σ' = σ ∧ rLess L M = rLess (L.drop i) (M.drop i)) L.length ⟨0, by simp⟩ ?_
  rintro J hJ r fr σ' ⟨i, hi, him, h0, h1, h5, rfl, he⟩
  by_cases hlt : i < L.length
  · by_cases hlm : i < M.length
    · obtain ⟨b, o, c2, e, hc, hb, hcell⟩ := Ints.at_ h hlt
      cases e
      obtain ⟨b', o', c3, e, hc', hb', hcell'⟩ := Ints.at_ g hlm
      cases e
      have hw := wrap_suc hlt hL
      rw [rLess_drop hlt hlm] at he
      by_cases hx : L[i] = M[i]
      · simp [h0, h1, h5, hlt, hlm, partA, hcell, hcell', hx, hw]
        rw [if_pos hx] at he
        exact .mk (r - 1) (by omega) (hJ _ _ _ ⟨i + 1, by omega, by omega, by simp [h0], by simp [h1], by simp, rfl, he⟩)
      · simp [h0, h1, h5, hlt, hlm, partA, hcell, hcell', hx, hw]
        rw [if_neg hx] at he
        exact hK _ _ ⟨by rw [he], rfl⟩
    · rw [rLess_end (by omega) (by omega) (by omega)] at he
      simp [h0, h1, h5, hlt, hlm]
      exact hK _ _ ⟨by rw [he], rfl⟩
  · rw [rLess_end (by omega) (by omega) (by omega)] at he
    simp [h0, h1, h5, hlt]
    exact hK _ _ ⟨by rw [he], rfl⟩
def cmpI (a b : Int) : Int := if a < b then -1 else if b < a then 1 else 0
theorem cmpNaN_ok (a : Int) (σ : Heap) : ACalls Try.prog w0 107 [.int .i64 a] σ fun v σ' => v = .bool false ∧ σ' = σ := by
  refine acalls_go hmix Try.func107 comp107 (Nat.le_of_ble_eq_true rfl) fun K hK => ?_
  simp [C107]
  exact hK _ _ ⟨rfl, rfl⟩
theorem cmpCompare_ok (a b : Int) (σ : Heap) : ACalls Try.prog w0 106 [.int .i64 a, .int .i64 b] σ fun v σ' => v = .int .i64 (cmpI a b) ∧ σ' = σ := by
  refine acalls_go hmix Try.func106 comp106 (Nat.le_of_ble_eq_true rfl) fun K hK => ?_
  simp [C106]
  refine (cmpNaN_ok _ _).mono ?_
  rintro v σ2 ⟨rfl, rfl⟩
  simp
  refine (cmpNaN_ok _ _).mono ?_
  rintro v σ2 ⟨rfl, rfl⟩
  by_cases h : a < b
  · simp [h]
    exact hK _ _ ⟨by simp [cmpI, h], rfl⟩
  · by_cases h2 : b < a
    · simp [h, h2]
      exact hK _ _ ⟨by simp [cmpI, h, h2], rfl⟩
    · simp [h, h2]
      exact hK _ _ ⟨by simp [cmpI, h, h2], rfl⟩
/-- How two rows compare. -/
def rCmp : List Int → List Int → Int
  | [], [] => 0
  | [], _ :: _ => -1
  | _ :: _, [] => 1
  | a :: xs, b :: ys => if cmpI a b = 0 then rCmp xs ys else cmpI a b
theorem rCmp_drop {L M : List Int} {i : Nat} (h : i < L.length) (k : i < M.length) : rCmp (L.drop i) (M.drop i) = if cmpI L[i] M[i] = 0 then rCmp (L.drop (i + 1)) (M.drop (i + 1)) else cmpI L[i] M[i] := by
  rw [List.drop_eq_getElem_cons h, List.drop_eq_getElem_cons k]; rfl
theorem rCmp_left {L M : List Int} {i : Nat} (h : i < L.length) (k : ¬ i < M.length) : rCmp (L.drop i) (M.drop i) = 1 := by
  rw [List.drop_eq_getElem_cons h, List.drop_of_length_le (l := M) (by omega)]; rfl
theorem rCmp_end {L M : List Int} {i : Nat} (h : ¬ i < L.length) (hi : i ≤ L.length) : rCmp (L.drop i) (M.drop i) = if L.length < M.length then -1 else 0 := by
  rw [List.drop_of_length_le (l := L) (by omega)]
  have hi : i = L.length := by omega
  subst hi
  by_cases hm : L.length < M.length
  · rw [if_pos hm, List.drop_eq_getElem_cons hm]; rfl
  · rw [if_neg hm, List.drop_of_length_le (l := M) (by omega)]; rfl
theorem sCompare_ok {σ : Heap} {s t : Value} {L M : List Int} (h : Ints σ s L) (g : Ints σ t M) (hL : L.length ≤ 9223372036854775807) (hM : M.length ≤ 9223372036854775807) : ACalls Try.prog w0 105 [s, t] σ fun v σ' => v = .int .i64 (rCmp L M) ∧ σ' = σ := by
  refine acalls_go hmix Try.func105 comp105 (Nat.le_of_ble_eq_true rfl) fun K hK => ?_
  obtain ⟨a, c, rfl⟩ := h.len
  obtain ⟨a', c', rfl⟩ := g.len
  simp [C105]
  refine AWp_count (fun r fr σ' => ∃ i : Nat, i + r = L.length ∧ fr 0 = .slice a L.length c ∧ fr 9 = .slice a L.length c ∧ fr 10 = .int .i64 L.length ∧ fr 1 = .slice a' M.length c' ∧ fr 11 = .int .i64 i ∧ σ' = σ ∧ rCmp L M = rCmp (L.drop i) (M.drop i)) L.length ⟨0, by simp⟩ ?_
  rintro J hJ r fr σ' ⟨i, hi, h0, h9, h10, h1, h11, rfl, he⟩
  by_cases hlt : i < L.length
  · obtain ⟨b, o, c2, e, hc, hb, hcell⟩ := Ints.at_ h hlt
    cases e
    have hw := wrap_suc hlt hL
    by_cases hlm : i < M.length
    · obtain ⟨b', o', c3, e, hc', hb', hcell'⟩ := Ints.at_ g hlm
      cases e
      rw [rCmp_drop hlt hlm] at he
      simp [h0, h1, h9, h10, h11, hlt, hlm, partA, hcell, hcell', show ¬ M.length ≤ i by omega]
      refine (cmpCompare_ok _ _ _).mono ?_
      rintro v σ2 ⟨rfl, rfl⟩
      by_cases hx : cmpI L[i] M[i] = 0
      · rw [if_pos hx] at he
        simp [hx, h11, hw]
        exact .mk (r - 1) (by omega) (hJ _ _ _ ⟨i + 1, by omega, by simp [h0], by simp [h9], by simp [h10], by simp [h1], by simp, rfl, he⟩)
      · rw [if_neg hx] at he
        simp [hx]
        exact hK _ _ ⟨by rw [he], rfl⟩
    · rw [rCmp_left hlt hlm] at he
      simp [h0, h1, h9, h10, h11, hlt, partA, hcell, show M.length ≤ i by omega]
      exact hK _ _ ⟨by rw [he], rfl⟩
  · rw [rCmp_end hlt (by omega)] at he
    by_cases hm : L.length < M.length
    · simp [h0, h1, h9, h10, h11, hlt, hm]
      exact hK _ _ ⟨by rw [he, if_pos hm], rfl⟩
    · simp [h0, h1, h9, h10, h11, hlt, hm]
      exact hK _ _ ⟨by rw [he, if_neg hm], rfl⟩
theorem rLess_cmp : ∀ L M : List Int, decide (rCmp L M < 0) = rLess L M
  | [], [] => rfl
  | [], _ :: _ => rfl
  | _ :: _, [] => rfl
  | a :: xs, b :: ys => by
    simp only [rCmp, rLess]
    by_cases h : a = b
    · subst h
      simp only [cmpI, Int.lt_irrefl, if_false, if_true]
      exact rLess_cmp xs ys
    · rw [if_neg h]
      by_cases h1 : a < b
      · simp [cmpI, h1]
      · have h2 : b < a := by omega
        simp [cmpI, h1, h2]
theorem RowLess_ok {σ : Heap} {s t : Value} {L M : List Int} (h : Ints σ s L) (g : Ints σ t M) (hL : L.length ≤ 9223372036854775807) (hM : M.length ≤ 9223372036854775807) : ACalls Try.prog w0 104 [s, t] σ fun v σ' => v = .bool (rLess L M) ∧ σ' = σ := by
  refine acalls_go hmix Try.func104 comp104 (Nat.le_of_ble_eq_true rfl) fun K hK => ?_
  simp [C104]
  refine (sCompare_ok h g hL hM).mono ?_
  rintro v σ2 ⟨rfl, rfl⟩
  simp
  exact hK _ _ ⟨by rw [← rLess_cmp], rfl⟩
theorem cell_of' {l : List Value} {o n j : Nat} {cs : List Value} {v : Value} (h : readCells l o n = some cs) (hj : cs[j]? = some v) : l[o + j]? = some v := by
  obtain ⟨h1, h2, h3⟩ := readCells_eq h
  have : j < cs.length := (List.getElem?_eq_some_iff.1 hj).1
  rw [← h3 j (by omega)]; exact hj
end Go.Proofs.Ytennnifijepfhaa
