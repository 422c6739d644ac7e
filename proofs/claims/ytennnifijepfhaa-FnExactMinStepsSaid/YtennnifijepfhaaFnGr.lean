/- Graphs: what the tests of the reference and of the program compute. -/
import Derived.Test.YtennnifijepfhaaCoGr
import Derived.Test.YtennnifijepfhaaPlGr
import Derived.Test.YtennnifijepfhaaAhZ
import Derived.Test.YtennnifijepfhaaExF
namespace Go.Proofs.Ytennnifijepfhaa
open Go Go.AH
set_option linter.unusedSimpArgs false
set_option linter.unusedVariables false
set_option maxRecDepth 100000
variable {w0 : World}
theorem cell_of' {l : List Value} {o n j : Nat} {cs : List Value} {v : Value} (h : readCells l o n = some cs) (hj : cs[j]? = some v) : l[o + j]? = some v := by
  obtain ⟨h1, h2, h3⟩ := readCells_eq h
  have : j < cs.length := (List.getElem?_eq_some_iff.1 hj).1
  rw [← h3 j (by omega)]; exact hj
theorem Chans.at_ {σ : Heap} {a : Option Addr} {c n : Nat} {L : List Chan} {fp : List Nat} (h : Chans σ (.slice a n c) L fp) {i : Nat} (hi : i < L.length) : ∃ b o, a = some ⟨b, o, none⟩ ∧ 0 < c ∧ b < σ.size ∧ readCells (σ.blk b).cells (o + i * 3) 3 = some [.int .i64 L[i].fr, .int .i64 L[i].to, .int .i64 L[i].st] := by
  obtain ⟨b, o, c', cs, f, e, hc, hb, _, hcs, ⟨rfl, _⟩, hrd, _⟩ := SlF.at_ h (by omega) hi
  injection e with e1 e2 e3
  subst e1 e2 e3
  exact ⟨b, o, rfl, hc, hb, hrd⟩
def okCh (n : Int) (c : Chan) : Bool := inR c.fr 0 (n - 1) && inR c.to 0 (n - 1) && inR c.st 0 3
def okGr (n : Int) (cs : List Chan) : Bool := inR n 1 6 && decide (cs.length ≤ 12) && cs.all (okCh n) && iOkG cs
theorem chOk_of {n : Nat} {cs : List Chan} (h : cs.all (okCh n) = true) : ChOk n cs := fun c hc => by
  have := List.all_eq_true.1 h c hc
  simp [okCh, inR] at this
  omega
theorem R0_snoc {cs : List Chan} {i : Nat} (hi : i < cs.length) : R0 (cs.take (i + 1)) = fun a b => R0 (cs.take i) a b || (decide (cs[i].fr = a) && decide (cs[i].to = b) && decide (cs[i].st = 0)) := by
  funext a b
  unfold R0
  rw [List.take_succ_eq_append_getElem hi, List.any_append]; simp
/-- A square that is gone through, row by row. -/
def mid (m i j : Nat) (R : Rel2) : Rel2 := fun a b => if a < i ∨ (a = i ∧ b < j) then stg m R a b else R a b
theorem mid_step (m i j : Nat) (R : Rel2) : (fun x y => if x = i ∧ y = j then (mid m i j R i j || (mid m i j R i m && mid m i j R m j)) else mid m i j R x y) = mid m i (j + 1) R := by
  have e1 : mid m i j R i j = R i j := by unfold mid; rw [if_neg (by omega)]
  have e2 : mid m i j R i m = R i m := by
    unfold mid
    split
    · unfold stg; cases R i m <;> simp
    · rfl
  have e3 : mid m i j R m j = R m j := by
    unfold mid
    split
    · unfold stg; cases R m j <;> simp
    · rfl
  funext x y
  rw [e1, e2, e3]
  by_cases hxy : x = i ∧ y = j
  · rw [if_pos hxy]
    obtain ⟨rfl, rfl⟩ := hxy
    unfold mid
    rw [if_pos (by omega)]; rfl
  · rw [if_neg hxy]
    unfold mid
    by_cases h1 : x < i ∨ (x = i ∧ y < j)
    · rw [if_pos h1, if_pos (by omega)]
    · rw [if_neg h1, if_neg (by omega)]
theorem mid_row (m i N : Nat) (R : Rel2) : matB N (mid m i N R) = matB N (mid m (i + 1) 0 R) := by
  unfold matB
  apply List.map_congr_left
  intro k hk
  have hk := List.mem_range.1 hk
  have hd := idx_div hk
  congr 1
  unfold mid
  by_cases h1 : k / N < i ∨ (k / N = i ∧ k % N < N)
  · rw [if_pos h1, if_pos (by omega)]
  · rw [if_neg h1, if_neg (by omega)]
theorem mid_end (m N : Nat) (R : Rel2) : matB N (mid m N 0 R) = matB N (stg m R) := by
  unfold matB
  apply List.map_congr_left
  intro k hk
  have hk := List.mem_range.1 hk
  have hd := idx_div hk
  congr 1
  unfold mid
  rw [if_pos (.inl hd.1)]
theorem mid_start (m : Nat) (R : Rel2) : mid m 0 0 R = R := by
  funext a b
  unfold mid
  rw [if_neg (by omega)]
theorem iValidGraph_ok {σ : Heap} {s : Value} {L : List Chan} {fp : List Nat} (h : Chans σ s L fp) (hL : L.length ≤ 9223372036854775807) (n : Int) : ACalls Try.prog w0 23 [.int .i64 n, s] σ fun v σ' => v = .bool (okGr n L) ∧ Ext σ σ' := by
  refine go23 fun K hK => ?_
  obtain ⟨a, c, rfl⟩ := h.len
  have hno : okGr n L = false → ∀ σ', Ext σ σ' → K (.bool false) σ' := fun hf σ' hE => hK _ _ ⟨by rw [hf], hE⟩
  by_cases h1 : n < 1
  · simp [-Int.not_lt, -Int.not_le, H23, h1]
    exact hno (by simp [okGr, inR]; omega) _ (Ext.refl _)
  by_cases h2 : 6 < n
  · simp [-Int.not_lt, -Int.not_le, H23, h1, h2]
    exact hno (by simp [okGr, inR]; omega) _ (Ext.refl _)
  by_cases h3 : 12 < (L.length : Int)
  · simp [-Int.not_lt, -Int.not_le, H23, h1, h2, h3]
    exact hno (by simp [okGr, inR]; omega) _ (Ext.refl _)
  obtain ⟨n, rfl⟩ : ∃ k : Nat, n = k := ⟨n.toNat, by omega⟩
  simp [-Int.not_lt, -Int.not_le, H23, h1, h2, h3]
  refine loop_for0 L.length (fun i σ' => Ext σ σ' ∧ (L.take i).all (okCh n) = true) ⟨Ext.refl _, by simp⟩ ?_ ?_
  · rintro J i σ' hlt ⟨hE, hall⟩ hJ
    obtain ⟨b, o, rfl, hc, hb, hrd⟩ := Chans.at_ (h.ext RCh_gd hE) hlt
    have hw := wrap_suc hlt hL
    have hbs := σ'.hle
    obtain ⟨σ2, e2, hE2, hl2, _, _, _⟩ := boxed σ' ⟨3, [.int .i64 L[i].fr, .int .i64 L[i].to, .int .i64 L[i].st]⟩
    have hE' := hE.trans hE2
    have hno' : okCh n L[i] = false → K (.bool false) σ2 := fun hf => hno (by rw [okGr, all_no hlt hf]; simp) _ hE'
    simp [-Int.not_lt, -Int.not_le, H23_l5, hlt, hrd, hbs, setCells, ← e2, hl2]
    by_cases g1 : L[i].fr < 0
    · simp [-Int.not_lt, -Int.not_le, g1]; exact hno' (by simp [okCh, inR]; omega)
    by_cases g2 : (n : Int) ≤ L[i].fr
    · simp [-Int.not_lt, -Int.not_le, g1, g2]; exact hno' (by simp [okCh, inR]; omega)
    by_cases g3 : L[i].to < 0
    · simp [-Int.not_lt, -Int.not_le, g1, g2, g3, hl2]; exact hno' (by simp [okCh, inR]; omega)
    by_cases g4 : (n : Int) ≤ L[i].to
    · simp [-Int.not_lt, -Int.not_le, g1, g2, g3, g4, hl2]; exact hno' (by simp [okCh, inR]; omega)
    by_cases g5 : L[i].st < 0
    · simp [-Int.not_lt, -Int.not_le, g1, g2, g3, g4, g5, hl2]; exact hno' (by simp [okCh, inR]; omega)
    by_cases g6 : 3 < L[i].st
    · simp [-Int.not_lt, -Int.not_le, g1, g2, g3, g4, g5, g6, hl2]; exact hno' (by simp [okCh, inR]; omega)
    simp [-Int.not_lt, -Int.not_le, g1, g2, g3, g4, g5, g6, hl2, hw]
    exact hJ _ ⟨hE', all_snoc hlt hall (by simp [okCh, inR]; omega)⟩
  rintro J σ1 ⟨hE1, hall⟩
  have hall := all_end (Nat.le_refl _) hall
  have hch := chOk_of hall
  have hokg : okGr n L = iOkG L := by simp [okGr, hall, inR]; omega
  have hlo := hE1.size
  have hbs1 := σ1.hle
  obtain ⟨σ2, e2, hE2, hl2, _, hs2, _⟩ := boxed σ1 ⟨36, matB 6 fun _ _ => false⟩
  have k2 := boxed_has hl2 hs2
  have e2' : σ1.push ⟨36, [.bool false, .bool false, .bool false, .bool false, .bool false, .bool false, .bool false, .bool false, .bool false, .bool false, .bool false, .bool false, .bool false, .bool false, .bool false, .bool false, .bool false, .bool false, .bool false, .bool false, .bool false, .bool false, .bool false, .bool false, .bool false, .bool false, .bool false, .bool false, .bool false, .bool false, .bool false, .bool false, .bool false, .bool false, .bool false, .bool false]⟩ = σ2 := by rw [e2]; rfl
  simp [H23_l5, fillA, setCells, hbs1]
  rw [e2']
  refine loop_for0 L.length (fun i σ' => Ext σ σ' ∧ Has σ' σ1.size ⟨36, matB 6 (R0 (L.take i))⟩) ⟨hE1.trans hE2, by rw [List.take_zero, show R0 ([] : List Chan) = fun _ _ => false from rfl]; exact k2⟩ ?_ ?_
  · rintro J i σ' hlt ⟨hE, k⟩ hJ
    obtain ⟨b, o, rfl, hc, hb, hrd⟩ := Chans.at_ (h.ext RCh_gd hE) hlt
    have hw := wrap_suc hlt hL
    have hbs := σ'.hle
    obtain ⟨σx, ex, hEx, hlx, _, hsx, _⟩ := boxed σ' ⟨3, [.int .i64 L[i].fr, .int .i64 L[i].to, .int .i64 L[i].st]⟩
    have hE' := hE.trans hEx
    have k' := k.ext hEx
    have hci := hch _ (List.getElem_mem hlt)
    have hbB : σx.base ≤ σ1.size := by rw [hE'.base]; have := σ.hle; omega
    obtain ⟨fr, hfr⟩ : ∃ m : Nat, L[i].fr = m := ⟨L[i].fr.toNat, by omega⟩
    obtain ⟨to, hto⟩ : ∃ m : Nat, L[i].to = m := ⟨L[i].to.toNat, by omega⟩
    have f6 : fr < 6 := by omega
    have t6 : to < 6 := by omega
    simp [H23_l4, hlt, hrd, hbs, setCells, ← ex, hlx]
    by_cases hst : L[i].st = 0
    · have hlen : fr * 6 + to + 1 ≤ 36 := by omega
      simp [hst, hfr, hto, show (fr : Int) < 6 by omega, show (to : Int) < 6 by omega, k'.1, matB_len, hbB, hlen, hw, matB_set _ f6 t6]
      refine hJ _ ⟨Ext.put hE' hlo _, ⟨?_, k'.2⟩⟩
      have hms := matB_set (R0 (L.take i)) f6 t6 true
      simp only [setCells] at hms
      simp [k'.1]
      rw [hms, R0_snoc hlt]
      congr 1
      funext x y
      simp only [hfr, hto, hst]
      by_cases hx : x = fr ∧ y = to
      · rw [if_pos hx]; simp [hx.1, hx.2]
      · rw [if_neg hx]
        have : ¬ ((fr : Int) = x ∧ (to : Int) = y) := by omega
        by_cases h1 : (fr : Int) = x
        · have h2 : ¬ (to : Int) = y := fun e => this ⟨h1, e⟩
          simp [h2]
        · simp [h1]
    · simp [hst, hw]
      refine hJ _ ⟨hE', ?_⟩
      rw [R0_snoc hlt]
      simpa [hst] using k'
  rintro J σ3 ⟨hE3, k3⟩
  rw [List.take_of_length_le (Nat.le_refl _)] at k3
  simp [H23_l4]
  refine loop_for0 6 (fun m σ' => Ext σ σ' ∧ Has σ' σ1.size ⟨36, matB 6 (Rm (R0 L) m)⟩) ⟨hE3, k3⟩ ?_ ?_
  · rintro J m σ' hm ⟨hE, k⟩ hJ
    have hwm := wrap_suc hm (by omega)
    simp [H23_l1, show (m : Int) < 6 by omega]
    refine loop_for0 6 (fun i σ' => Ext σ σ' ∧ Has σ' σ1.size ⟨36, matB 6 (mid m i 0 (Rm (R0 L) m))⟩) ⟨hE, by rw [mid_start]; exact k⟩ ?_ ?_
    · rintro J2 i σ' hi ⟨hE, k⟩ hJ2
      have hwi := wrap_suc hi (by omega)
      simp [H23_l2, show (i : Int) < 6 by omega]
      refine loop_for0 6 (fun j σ' => Ext σ σ' ∧ Has σ' σ1.size ⟨36, matB 6 (mid m i j (Rm (R0 L) m))⟩) ⟨hE, k⟩ ?_ ?_
      · rintro J3 j σ' hj ⟨hE, k⟩ hJ3
        have hwj := wrap_suc hj (by omega)
        have hbB : σ'.base ≤ σ1.size := by rw [hE.base]; have := σ.hle; omega
        have hlen : i * 6 + j + 1 ≤ 36 := by omega
        have hstep := mid_step m i j (Rm (R0 L) m)
        have q1 := matB_get (mid m i j (Rm (R0 L) m)) hi hj
        have q2 := matB_get (mid m i j (Rm (R0 L) m)) hi hm
        have q3 := matB_get (mid m i j (Rm (R0 L) m)) hm hj
        have fin : ∀ v, v = (mid m i j (Rm (R0 L) m) i j || (mid m i j (Rm (R0 L) m) i m && mid m i j (Rm (R0 L) m) m j)) → J3 (.int .i64 ((j : Int) + 1)) (σ'.put σ1.size (setCells (matB 6 (mid m i j (Rm (R0 L) m))) (i * 6 + j) [.bool v])) := fun v hv => by
          refine hJ3 _ ⟨Ext.put hE hlo _, ⟨?_, k.2⟩⟩
          simp [k.1]
          rw [matB_set _ hi hj, ← hstep, ← hv]
        cases c1 : mid m i j (Rm (R0 L) m) i j
        · cases c2 : mid m i j (Rm (R0 L) m) i m
          · simp [H23_l3, show (i : Int) < 6 by omega, show (j : Int) < 6 by omega, show (m : Int) < 6 by omega, k.1, q1, q2, q3, c1, c2, hbB, matB_len, hlen, hwj]
            exact fin _ (by rw [c1, c2]; rfl)
          · cases c3 : mid m i j (Rm (R0 L) m) m j
            · simp [H23_l3, show (i : Int) < 6 by omega, show (j : Int) < 6 by omega, show (m : Int) < 6 by omega, k.1, q1, q2, q3, c1, c2, c3, hbB, matB_len, hlen, hwj]
              exact fin _ (by rw [c1, c2, c3]; rfl)
            · simp [H23_l3, show (i : Int) < 6 by omega, show (j : Int) < 6 by omega, show (m : Int) < 6 by omega, k.1, q1, q2, q3, c1, c2, c3, hbB, matB_len, hlen, hwj]
              exact fin _ (by rw [c1, c2, c3]; rfl)
        · simp [H23_l3, show (i : Int) < 6 by omega, show (j : Int) < 6 by omega, show (m : Int) < 6 by omega, k.1, q1, q2, q3, c1, hbB, matB_len, hlen, hwj]
          exact fin _ (by rw [c1]; rfl)
      · rintro J3 σ' ⟨hE, k⟩
        simp [H23_l3, hwi]
        exact hJ2 _ ⟨hE, by rw [← mid_row]; exact k⟩
    · rintro J2 σ' ⟨hE, k⟩
      simp [H23_l2, hwm]
      exact hJ _ ⟨hE, by rw [mid_end] at k; exact k⟩
  rintro J σ4 ⟨hE4, k4⟩
  simp [H23_l1]
  refine loop_for0 6 (fun i σ' => σ' = σ4 ∧ (List.range i).all (fun i => !Rm (R0 L) 6 i i) = true) ⟨rfl, rfl⟩ ?_ ?_
  · rintro J i σ' hi ⟨rfl, hall⟩ hJ
    have hwi := wrap_suc hi (by omega)
    have q := matB_get (Rm (R0 L) 6) hi hi
    cases c1 : Rm (R0 L) 6 i i
    · simp [H23_l0, show (i : Int) < 6 by omega, k4.1, q, c1, hwi]
      exact hJ _ ⟨rfl, by rw [List.range_succ, List.all_append, hall]; simp [c1]⟩
    · simp [H23_l0, show (i : Int) < 6 by omega, k4.1, q, c1, hwi]
      refine hno ?_ _ hE4
      rw [hokg, iOkG, List.all_eq_false]
      exact ⟨i, List.mem_range.2 hi, by simp [c1]⟩
  · rintro J σ' ⟨rfl, hall⟩
    simp [H23_l0]
    exact hK _ _ ⟨by rw [hokg, iOkG, hall], hE4⟩
end Go.Proofs.Ytennnifijepfhaa
