/- Z-sets' validity: what the reference and the program compute. -/
import Derived.Test.YtennnifijepfhaaCoZt
import Derived.Test.YtennnifijepfhaaFnRl
namespace Go.Proofs.Ytennnifijepfhaa
open Go Go.AH
set_option linter.unusedSimpArgs false
set_option linter.unusedVariables false
set_option maxRecDepth 100000
variable {w0 : World}
/-- An entry's cells. -/
theorem Ens.at_ {σ : Heap} {a : Option Addr} {c n : Nat} {L : List En} {fp : List Nat} (h : Ens σ (.slice a n c) L fp) {i : Nat} (hi : i < L.length) : ∃ b o v f, a = some ⟨b, o, none⟩ ∧ n = L.length ∧ 0 < c ∧ b < σ.size ∧ IntsF σ v L[i].row f ∧ readCells (σ.blk b).cells (o + i * 2) 2 = some [v, .int .i64 L[i].w] ∧ (σ.blk b).cells[o + i * 2]? = some v ∧ (σ.blk b).cells[o + i * 2 + 1]? = some (.int .i64 L[i].w) := by
  obtain ⟨b, o, c', cs, f, e, hc, hb, _, hcs, ⟨v, rfl, hv⟩, hrd, _⟩ := SlF.at_ h (by omega) hi
  injection e with e1 e2 e3
  subst e1 e2 e3
  exact ⟨b, o, v, f, rfl, rfl, hc, hb, hv, hrd, cell_of' (j := 0) hrd rfl, cell_of' (j := 1) hrd rfl⟩
def en0 (z : List En) (i : Nat) : En := z.getD i ⟨[], 0⟩
theorem en0_lt {z : List En} {i : Nat} (h : i < z.length) : en0 z i = z[i] := by simp [en0, List.getD_eq_getElem?_getD, h]
/-- The i-th entry is as a Z-set's. -/
def zOk (z : List En) (i : Nat) : Bool := okRow (en0 z i).row && decide ((en0 z i).row.length = (en0 z 0).row.length) && !decide ((en0 z i).w = 0) && inR (en0 z i).w (-1000000) 1000000 && (decide (i = 0) || rLess (en0 z (i - 1)).row (en0 z i).row)
def okZ (z : List En) : Bool := decide (∀ i, i < z.length → zOk z i = true) && decide (z.length ≤ 400)
theorem okZ_no {z : List En} {i : Nat} (hi : i < z.length) (h : zOk z i = false) : okZ z = false := by
  unfold okZ
  rw [decide_eq_false, Bool.false_and]
  intro h2
  have := h2 i hi
  rw [h] at this
  cases this

theorem validZSet_ok {σ : Heap} {s : Value} {L : List En} {fp : List Nat} (h : Ens σ s L fp) (hL : L.length ≤ 9223372036854775807) (hr : ∀ x ∈ L, x.row.length ≤ 4611686018427387904) : ACalls Try.prog w0 91 [s] σ fun v σ' => v = .bool (okZ L) ∧ σ' = σ := by
  refine go91 fun K hK => ?_
  obtain ⟨a, c, rfl⟩ := h.len
  refine loop_count (fun k s σ' => ∃ i : Nat, s = .int .i64 i ∧ i + k = L.length ∧ σ' = σ ∧ ∀ j, j < i → zOk L j = true) L.length ⟨0, by simp⟩ ?_
  rintro J hJ k _ _ ⟨i, rfl, hi, rfl, hall⟩
  by_cases hlt : i < L.length
  · obtain ⟨b, o, v, f, rfl, _, hc, hb, hv, hrd, hc0, hc1⟩ := Ens.at_ h hlt
    obtain ⟨b0, o0, v0, f0, e0, _, _, _, hv0, hrd0, hc00, hc01⟩ := Ens.at_ h (show 0 < L.length by omega)
    simp only [Option.some.injEq, Addr.mk.injEq] at e0
    obtain ⟨rfl, rfl, _⟩ := e0
    simp at hc00
    have hw := wrap_suc hlt hL
    have hpos : 0 < L.length := by omega
    obtain ⟨a1, c1, rfl⟩ := hv.len
    obtain ⟨a2, c2, rfl⟩ := hv0.len
    have ei := en0_lt hlt
    have e0 := en0_lt hpos
    simp [H91_l0, hlt, hc0, hc1, hc00, hpos]
    refine ret_go (validRow_ok hv.ints (hr _ (List.getElem_mem _))) ?_
    cases hrow : okRow L[i].row
    · simp
      exact hK _ _ ⟨by rw [okZ_no hlt]; simp [zOk, ei, hrow], rfl⟩
    by_cases hw1 : L[i].row.length = L[0].row.length
    case neg =>
      simp [hlt, hpos, hc0, hc00, hc1, hw1, show ¬ ((L[i].row.length : Int) = (L[0].row.length : Int)) by omega]
      exact hK _ _ ⟨by rw [okZ_no hlt]; simp [zOk, ei, e0, hw1], rfl⟩
    by_cases hw2 : L[i].w = 0
    · simp [hlt, hpos, hc0, hc00, hc1, hw1, hw2]
      exact hK _ _ ⟨by rw [okZ_no hlt]; simp [zOk, ei, e0, hw2], rfl⟩
    simp [hlt, hpos, hc0, hc00, hc1, hw1, hw2]
    refine ret_go (inRange_ok _ _ _ _) ?_
    cases hin : inR L[i].w (-1000000) 1000000
    · simp
      exact hK _ _ ⟨by rw [okZ_no hlt]; simp [zOk, ei, e0, hin], rfl⟩
    by_cases hi0 : i = 0
    · subst hi0
      simp [show IntKind.i64.wrap 1 = 1 from by decide]
      exact againH (k - 1) (by omega) (hJ _ _ _ ⟨1, by simp, by omega, rfl, fun j hj => by
        have : j = 0 := by omega
        subst this
        simp [zOk, ei, hrow, hw2, hin]⟩)
    · obtain ⟨b3, o3, v3, f3, e3, _, _, _, hv3, hrd3, hc30, hc31⟩ := Ens.at_ h (show i - 1 < L.length by omega)
      simp only [Option.some.injEq, Addr.mk.injEq] at e3
      obtain ⟨rfl, rfl, _⟩ := e3
      have ep := en0_lt (show i - 1 < L.length by omega)
      have hm1 : IntKind.i64.wrap ((i : Int) - 1) = ((i - 1 : Nat) : Int) := by rw [w64 (by omega) (by omega)]; omega
      simp [hlt, hpos, hc0, hc30, hm1, show 0 < i by omega, show i - 1 < L.length by omega]
      refine ret_go (rowLess_ok hv3.ints hv.ints (by have := hr _ (List.getElem_mem (show i - 1 < L.length by omega)); omega) (by have := hr _ (List.getElem_mem hlt); omega)) ?_
      cases hle : rLess L[i - 1].row L[i].row
      · simp
        exact hK _ _ ⟨by rw [okZ_no hlt]; simp [zOk, ei, e0, ep, hle, hi0], rfl⟩
      · simp [hw]
        exact againH (k - 1) (by omega) (hJ _ _ _ ⟨i + 1, by simp, by omega, rfl, fun j hj => by
          by_cases hji : j < i
          · exact hall j hji
          · have : j = i := by omega
            subst this
            simp [zOk, ei, e0, ep, hrow, hw1, hw2, hin, hle]⟩)
  · simp [H91_l0, hlt]
    refine hK _ _ ⟨?_, rfl⟩
    unfold okZ
    rw [decide_eq_true (p := ∀ i, i < L.length → zOk L i = true) (fun j hj => hall j (by omega)), Bool.true_and]
    congr 1
    simp
    omega
theorem rowv {σ : Heap} {v : Value} {xs : List Int} {f : List Nat} (h : IntsF σ v xs f) : ∃ a c, v = .slice a xs.length c := h.len
theorem ValidZSet_ok {σ : Heap} {s : Value} {L : List En} {fp : List Nat} (h : Ens σ s L fp) (hL : L.length ≤ 9223372036854775807) (hr : ∀ x ∈ L, x.row.length ≤ 4611686018427387904) : ACalls Try.prog w0 93 [s] σ fun v σ' => v = .bool (okZ L) ∧ Ext σ σ' := by
  refine go93 fun K hK => ?_
  obtain ⟨a, c, rfl⟩ := h.len
  simp [H93]
  refine loop_count (fun k s σ' => ∃ i : Nat, s = .int .i64 i ∧ i + k = L.length ∧ Ext σ σ' ∧ ∀ j, j < i → zOk L j = true) L.length ⟨0, rfl, by simp, Ext.refl _, by simp⟩ ?_
  rintro J hJ k _ σ' ⟨i, rfl, hi, hE, hall⟩
  by_cases hlt : i < L.length
  · have h' := h.ext REn_gd hE
    obtain ⟨b, o, v, f, rfl, _, hc, hb, hv, hrd, hc0, hc1⟩ := Ens.at_ h' hlt
    obtain ⟨b0, o0, v0, f0, e0, _, _, _, hv0, hrd0, hc00, hc01⟩ := Ens.at_ h' (show 0 < L.length by omega)
    simp only [Option.some.injEq, Addr.mk.injEq] at e0
    obtain ⟨rfl, rfl, _⟩ := e0
    simp at hc00
    have hw := wrap_suc hlt hL
    have hpos : 0 < L.length := by omega
    obtain ⟨a1, c1, rfl⟩ := hv.len
    obtain ⟨a2, c2, rfl⟩ := hv0.len
    have ei := en0_lt hlt
    have e0 := en0_lt hpos
    have hbs := σ'.hle
    obtain ⟨σ2, e2, hEp, hl2, _, _, ho⟩ := boxed σ' ⟨2, [.slice a1 L[i].row.length c1, .int .i64 L[i].w]⟩
    have hE' := hE.trans hEp
    have ho := ho b hb
    simp [H93_l0, hlt, hrd, hbs, setCells, ← e2, hl2]
    refine ret_go (iValidRow_ok (hv.ext RIF_gd hEp).ints (by have := hr _ (List.getElem_mem hlt); omega)) ?_
    cases hrow : okRow L[i].row
    · simp
      exact hK _ _ ⟨by rw [okZ_no hlt]; simp [zOk, ei, hrow], hE'⟩
    by_cases hw1 : L[i].row.length = L[0].row.length
    case neg =>
      simp [hpos, hl2, ho, hc00, hw1, show ¬ ((L[i].row.length : Int) = (L[0].row.length : Int)) by omega]
      exact hK _ _ ⟨by rw [okZ_no hlt]; simp [zOk, ei, e0, hw1], hE'⟩
    by_cases hw2 : L[i].w = 0
    · simp [hpos, hl2, ho, hc00, hw1, hw2]
      exact hK _ _ ⟨by rw [okZ_no hlt]; simp [zOk, ei, e0, hw2], hE'⟩
    by_cases hw3 : L[i].w < -1000000
    · simp [hpos, hl2, ho, hc00, hw1, hw2, hw3]
      exact hK _ _ ⟨by rw [okZ_no hlt]; simp [zOk, ei, e0, inR]; omega, hE'⟩
    by_cases hw4 : L[i].w > 1000000
    · simp [hpos, hl2, ho, hc00, hw1, hw2, hw3, hw4]
      exact hK _ _ ⟨by rw [okZ_no hlt]; simp [zOk, ei, e0, inR]; omega, hE'⟩
    have hin : inR L[i].w (-1000000) 1000000 = true := by simp [inR]; omega
    by_cases hi0 : i = 0
    · subst hi0
      simp [hpos, hl2, ho, hc00, hw2, hw3, hw4, show IntKind.i64.wrap 1 = 1 from by decide]
      exact againH (k - 1) (by omega) (hJ _ _ _ ⟨1, by simp, by omega, hE', fun j hj => by
        have : j = 0 := by omega
        subst this
        simp [zOk, ei, hrow, hw2, hin]⟩)
    · obtain ⟨b3, o3, v3, f3, e3, _, _, _, hv3, hrd3, hc30, hc31⟩ := Ens.at_ h' (show i - 1 < L.length by omega)
      simp only [Option.some.injEq, Addr.mk.injEq] at e3
      obtain ⟨rfl, rfl, _⟩ := e3
      have ep := en0_lt (show i - 1 < L.length by omega)
      have hm1 : IntKind.i64.wrap ((i : Int) - 1) = ((i - 1 : Nat) : Int) := by rw [w64 (by omega) (by omega)]; omega
      have hv := hv.ext RIF_gd hEp
      rw [hw1] at hv
      simp [hpos, hl2, ho, hc00, hw1, hw2, hw3, hw4, hm1, hc30, show 0 < i by omega, show i - 1 < L.length by omega]
      refine ret_go (RowLess_ok (hv3.ext RIF_gd hEp).ints hv.ints (by have := hr _ (List.getElem_mem (show i - 1 < L.length by omega)); omega) (by have := hr _ (List.getElem_mem hlt); omega)) ?_
      cases hle : rLess L[i - 1].row L[i].row
      · simp
        exact hK _ _ ⟨by rw [okZ_no hlt]; simp [zOk, ei, e0, ep, hle, hi0], hE'⟩
      · simp [hw]
        exact againH (k - 1) (by omega) (hJ _ _ _ ⟨i + 1, by simp, by omega, hE', fun j hj => by
          by_cases hji : j < i
          · exact hall j hji
          · have : j = i := by omega
            subst this
            simp [zOk, ei, e0, ep, hrow, hw1, hw2, hin, hle]⟩)
  · simp [H93_l0, hlt]
    refine hK _ _ ⟨?_, hE⟩
    unfold okZ
    rw [decide_eq_true (p := ∀ i, i < L.length → zOk L i = true) (fun j hj => hall j (by omega)), Bool.true_and]
    congr 1
    simp
    omega
end Go.Proofs.Ytennnifijepfhaa
